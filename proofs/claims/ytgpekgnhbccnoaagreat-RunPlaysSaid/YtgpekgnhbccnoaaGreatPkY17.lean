/-
 Instructions in memory, as they are read; a state as a thing that lies apart.
 No condition.
 The document's state as a thing that lies apart.
 No condition.
-/
import Derived.Test.YtgpekgnhbccnoaaGreatPkY5
import Derived.Test.YtgpekgnhbccnoaaGreatPkY16
namespace Go.Proofs.YtgpekgnhbccnoaaGreat
open Go Go.RowKit

/-- What holds as long as the blocks of S stay. -/
def Stay (w : World) (S : Nat → Prop) (R : World → Prop) : Prop := ∀ w' T, Fr w w' T → (∀ k, S k → ¬ T k) → R w'
theorem Stay.now {w : World} {S : Nat → Prop} {R : World → Prop} (h : Stay w S R) : R w := h w Nil (Fr.refl w _) fun _ _ h => h
theorem Stay.fr {w w1 : World} {S T : Nat → Prop} {R : World → Prop} (h : Stay w S R) (hf : Fr w w1 T) (hd : ∀ k, S k → ¬ T k) : Stay w1 S R := fun w2 T2 hf2 hd2 =>
 h w2 (fun k => T k ∨ T2 k) ((hf.mono fun _ _ => .inl).trans hf2 fun _ _ => .inr) fun k hk hT => hT.elim (hd k hk) (hd2 k hk)
theorem Stay.imp {w : World} {S : Nat → Prop} {R R' : World → Prop} (h : Stay w S R) (hR : ∀ w, R w → R' w) : Stay w S R' := fun w' T hf hd => hR w' (h w' T hf hd)
theorem Stay.mono {w : World} {S S' : Nat → Prop} {R : World → Prop} (h : Stay w S R) (hS : ∀ k, S k → S' k) : Stay w S' R := fun w' T hf hd => h w' T hf fun k hk => hd k (hS k hk)
theorem Stay.and {w : World} {S : Nat → Prop} {R R' : World → Prop} (h : Stay w S R) (h' : Stay w S R') : Stay w S (fun w => R w ∧ R' w) := fun w' T hf hd => ⟨h w' T hf hd, h' w' T hf hd⟩
/-- A thing that is only read. -/
def readT (R : World → Prop) : Thing where
 At w S := Stay w S R ∧ ∀ k, S k → k < w.heap.size
 fr h hf hd := ⟨h.1.fr hf hd, fun k hk => Nat.lt_of_lt_of_le (h.2 k hk) hf.size⟩
 lt h := h.2
theorem Lies.read {w0 W : World} {l : List Thing} {R : World → Prop} (h : Lies w0 W l) (i : Nat) (hi : l[i]? = some (readT R)) : R W := by
 obtain ⟨S, h1, _⟩ := h.get i _ hi
 exact h1.1.now
/-- Two things behind one another become one. -/
theorem Lies.fuse {w0 W : World} {l : List Thing} {x y z : Thing} (h : Lies w0 W (l ++ [x, y])) (hz : ∀ S T, x.At W S → y.At W T → (∀ k, S k → ¬ T k) → z.At W (fun k => S k ∨ T k)) : Lies w0 W (l ++ [z]) := by
 obtain ⟨h1, F, h2, h3⟩ := h
 have hx := h2 l.length x (by simp)
 have hy := h2 (l.length + 1) y (by simp)
 have hd := h3 l.length (l.length + 1) (by simp) (by simp) (by omega)
 refine ⟨h1, fun i => if i = l.length then (fun k => F l.length k ∨ F (l.length + 1) k) else F i, fun i u hu => ?_, fun i j hi hj hij k => ?_⟩
 ·have hi := (List.getElem?_eq_some_iff.1 hu).1
  rw [List.length_append, List.length_singleton] at hi
  dsimp only
  by_cases e : i = l.length
  ·subst e
   rw [if_pos rfl]
   rw [List.getElem?_append_right (Nat.le_refl _), Nat.sub_self] at hu
   cases hu
   exact ⟨hz _ _ hx.1 hy.1 hd, fun k hk => hk.elim (hx.2 k) (hy.2 k)⟩
  ·rw [if_neg e]
   rw [List.getElem?_append_left (by omega)] at hu
   exact h2 i u (by rw [List.getElem?_append_left (by omega)]; exact hu)
 ·simp only [List.length_append, List.length_singleton] at hi hj
  have key : ∀ a b, a < l.length + 2 → b < l.length + 2 → a ≠ b → ∀ k, F a k → ¬ F b k := fun a b ha hb => h3 a b (by simpa using ha) (by simpa using hb)
  dsimp only
  by_cases e : i = l.length
  ·rw [if_pos e, if_neg (by omega)]
   rintro (q | q)
   ·exact key _ _ (by omega) (by omega) (by omega) k q
   ·exact key _ _ (by omega) (by omega) (by omega) k q
  ·rw [if_neg e]
   by_cases e2 : j = l.length
   ·rw [if_pos e2]
    rintro q (q2 | q2)
    ·exact key _ _ (by omega) (by omega) (by omega) k q q2
    ·exact key _ _ (by omega) (by omega) (by omega) k q q2
   ·rw [if_neg e2]
    exact key _ _ (by omega) (by omega) hij k
/-- Slices of terms, as they are read. -/
def ValsAt (w : World) (v : Value) (l : List (List TermD)) : Prop :=
 ∃ a cap, v = .slice a l.length cap ∧ (l = [] ∨ ∃ b off, a = some ⟨b, off, none⟩ ∧ ∀ i t, l[i]? = some t → ∃ tv, w.cell? ⟨b, off + i, none⟩ = some tv ∧ TermsAt w tv t)
theorem ValsAt.shape {w : World} {v : Value} {l : List (List TermD)} (h : ValsAt w v l) : ∃ a cap, v = .slice a l.length cap := by
 obtain ⟨a, cap, rfl, _⟩ := h
 exact ⟨a, cap, rfl⟩
theorem ValsAt.fr0 {w w' : World} {v : Value} {l : List (List TermD)} (h : ValsAt w v l) (hf : Fr w w' Nil) : ValsAt w' v l := by
 obtain ⟨a, cap, rfl, h0 | ⟨b, off, rfl, hc⟩⟩ := h
 ·exact ⟨a, cap, rfl, .inl h0⟩
 ·refine ⟨_, cap, rfl, .inr ⟨b, off, rfl, fun i t ht => ?_⟩⟩
  obtain ⟨tv, h1, h2⟩ := hc i t ht
  exact ⟨tv, hf.cell h1 fun h => h, h2.fr0 hf⟩
theorem ValsAt.form {w : World} {v : Value} {l : List (List TermD)} (h : ValsAt w v l) (hn : 0 < l.length) : ∃ b off cap, v = .slice (some ⟨b, off, none⟩) l.length cap ∧
  ∀ i t, l[i]? = some t → ∃ tv, w.cell? ⟨b, off + i, none⟩ = some tv ∧ TermsAt w tv t := by
 obtain ⟨a, cap, rfl, h0 | ⟨b, off, rfl, hc⟩⟩ := h
 ·rw [h0] at hn; simp at hn
 ·exact ⟨b, off, cap, rfl, hc⟩
/-- The thirteen cells. -/
abbrev InstrD.cs (n : InstrD) (kv vv : Value) : List Value :=
 [.int .u8 n.op, .int .i64 n.node, .int .u8 n.mode, .int .i64 n.tab, .bool n.row, .int .i64 n.col, .int .i64 n.var, .int .i64 n.dst, .bool n.eq, .int .i64 n.fro, .int .i64 n.upto, kv, vv]
abbrev InstrD.val (n : InstrD) (kv vv : Value) : Value :=
 .agg #[.int .u8 n.op, .int .i64 n.node, .int .u8 n.mode, .int .i64 n.tab, .bool n.row, .int .i64 n.col, .int .i64 n.var, .int .i64 n.dst, .bool n.eq, .int .i64 n.fro, .int .i64 n.upto, kv, vv]
def InstrAt (w : World) (b o : Nat) (n : InstrD) : Prop := ∃ kv vv, (∀ j u, (n.cs kv vv)[j]? = some u → w.cell? ⟨b, o + j, none⟩ = some u) ∧ TermsAt w kv n.key ∧ ValsAt w vv n.vals
theorem InstrAt.fr0 {w w' : World} {b o : Nat} {n : InstrD} (h : InstrAt w b o n) (hf : Fr w w' Nil) : InstrAt w' b o n := by
 obtain ⟨kv, vv, h1, h2, h3⟩ := h
 exact ⟨kv, vv, fun j u hu => hf.cell (h1 j u hu) fun h => h, h2.fr0 hf, h3.fr0 hf⟩
def CodeAt (w : World) (v : Value) (L : List InstrD) : Prop :=
 ∃ a cap, v = .slice a L.length cap ∧ (L = [] ∨ ∃ b off, a = some ⟨b, off, none⟩ ∧ ∀ i n, L[i]? = some n → InstrAt w b (off + i * 13) n)
theorem CodeAt.shape {w : World} {v : Value} {L : List InstrD} (h : CodeAt w v L) : ∃ a cap, v = .slice a L.length cap := by
 obtain ⟨a, cap, rfl, _⟩ := h
 exact ⟨a, cap, rfl⟩
theorem CodeAt.fr0 {w w' : World} {v : Value} {L : List InstrD} (h : CodeAt w v L) (hf : Fr w w' Nil) : CodeAt w' v L := by
 obtain ⟨a, cap, rfl, h0 | ⟨b, off, rfl, hc⟩⟩ := h
 ·exact ⟨a, cap, rfl, .inl h0⟩
 ·exact ⟨_, cap, rfl, .inr ⟨b, off, rfl, fun i n hn => (hc i n hn).fr0 hf⟩⟩
theorem CodeAt.form {w : World} {v : Value} {L : List InstrD} (h : CodeAt w v L) (hn : 0 < L.length) : ∃ b off cap, v = .slice (some ⟨b, off, none⟩) L.length cap ∧ ∀ i n, L[i]? = some n → InstrAt w b (off + i * 13) n := by
 obtain ⟨a, cap, rfl, h0 | ⟨b, off, rfl, hc⟩⟩ := h
 ·rw [h0] at hn; simp at hn
 ·exact ⟨b, off, cap, rfl, hc⟩
theorem IntsAt.fr0 {w w' : World} {v : Value} {xs : List Int} (h : IntsAt w v xs) (hf : Fr w w' Nil) : IntsAt w' v xs := h.fr hf fun _ _ h => h

/-- The program's state: where it lies, its slices, what they read as. -/
structure StV where
 sb : Nat
 lv : Value
 tv : Value
 vv : Value
 ov : Value
 L : List InstrD
 TB : List Int
 at' : Nat
 vars : List Int
 out : List Int
abbrev StV.cs (q : StV) : List Value := [q.lv, q.tv, .int .i64 q.at', q.vv, q.ov]
structure StAt (w : World) (q : StV) (C : Nat → Prop) : Prop where
 box : Bk w q.sb 91 q.cs
 vars : OwnInts w 2 q.vv q.vars
 out : OwnInts w 2 q.ov q.out
 code : Stay w C (fun w => CodeAt w q.lv q.L)
 tabs : Stay w C (fun w => IntsAt w q.tv q.TB)
 clt : ∀ k, C k → k < w.heap.size
 cs : ¬ C q.sb
 cv : ∀ k, q.vv.ownBlock = some k → ¬ C k ∧ k ≠ q.sb ∧ q.ov.ownBlock ≠ some k
 co : ∀ k, q.ov.ownBlock = some k → ¬ C k ∧ k ≠ q.sb
def StV.has (q : StV) (C : Nat → Prop) (k : Nat) : Prop := k = q.sb ∨ q.vv.ownBlock = some k ∨ q.ov.ownBlock = some k ∨ C k
theorem StAt.fr {w w' : World} {q : StV} {C T : Nat → Prop} (h : StAt w q C) (hf : Fr w w' T) (hd : ∀ k, q.has C k → ¬ T k) : StAt w' q C where
 box := h.box.fr hf (hd _ (.inl rfl))
 vars := h.vars.fr hf fun k hk => hd k (.inr (.inl hk))
 out := h.out.fr hf fun k hk => hd k (.inr (.inr (.inl hk)))
 code := h.code.fr hf fun k hk => hd k (.inr (.inr (.inr hk)))
 tabs := h.tabs.fr hf fun k hk => hd k (.inr (.inr (.inr hk)))
 clt k hk := Nat.lt_of_lt_of_le (h.clt k hk) hf.size
 cs := h.cs
 cv := h.cv
 co := h.co
def stT (q : StV) : Thing where
 At w S := ∃ C, StAt w q C ∧ ∀ k, S k ↔ q.has C k
 fr h hf hd := by
  obtain ⟨C, h1, h2⟩ := h
  exact ⟨C, h1.fr hf fun k hk => hd k ((h2 k).2 hk), h2⟩
 lt h k hk := by
  obtain ⟨C, h1, h2⟩ := h
  rcases (h2 k).1 hk with rfl | hk | hk | hk
  ·exact h1.box.lt
  ·exact h1.vars.lt k hk
  ·exact h1.out.lt k hk
  ·exact h1.clt k hk
section
variable {w0 W : World} {l : List Thing} {q : StV}
theorem Lies.st (h : Lies w0 W l) (i : Nat) (hi : l[i]? = some (stT q)) : Bk W q.sb 91 q.cs ∧ OwnInts W 2 q.vv q.vars ∧ OwnInts W 2 q.ov q.out ∧ CodeAt W q.lv q.L ∧ IntsAt W q.tv q.TB := by
 obtain ⟨S, ⟨C, h1, _⟩, _⟩ := h.get i _ hi
 exact ⟨h1.box, h1.vars, h1.out, h1.code.now, h1.tabs.now⟩
/-- Where it is, is set. -/
theorem Lies.stAt (h : Lies w0 W l) (i : Nat) (hi : l[i]? = some (stT q)) (n : Nat) (x : Int) (hx : x = (n : Int)) : Lies w0 (W.setCell ⟨q.sb, 2, none⟩ (.int .i64 x)) (l.set i (stT { q with at' := n })) := by
 subst hx
 obtain ⟨S, ⟨C, h1, h2⟩, _, h3⟩ := h.get i _ hi
 have hst := Fr.store W q.sb 2 (.int .i64 (n : Int))
 refine h3 _ S _ ⟨C, ⟨h1.box.set 2 _, h1.vars.fr hst fun k hk e => (h1.cv k hk).2.1 e, h1.out.fr hst fun k hk e => (h1.co k hk).2 e, h1.code.fr hst fun k hk e => h1.cs (by rw [← e]; exact hk), h1.tabs.fr hst fun k hk e => h1.cs (by rw [← e]; exact hk), fun k hk => Nat.lt_of_lt_of_le (h1.clt k hk) hst.size, h1.cs, h1.cv, h1.co⟩, h2⟩ (fun k hk => .inl hk) (hst.mono fun k _ hk => (h2 k).2 (.inl hk))
/-- A variable is set. -/
theorem Lies.stVar (h : Lies w0 W l) (i : Nat) (hi : l[i]? = some (stT q)) {b n cap : Nat} (hv : q.vv = .slice (some ⟨b, 0, none⟩) n cap) (hn : n = q.vars.length) (c : Nat) (x : Int) : Lies w0 (W.setCell ⟨b, c, none⟩ (.int .i64 x)) (l.set i (stT { q with vars := q.vars.set c x })) := by
 obtain ⟨S, ⟨C, h1, h2⟩, _, h3⟩ := h.get i _ hi
 have hst := Fr.store W b c (.int .i64 x)
 have hob : q.vv.ownBlock = some b := by rw [hv]; rfl
 obtain ⟨d1, d2, d3⟩ := h1.cv b hob
 have ho := h1.vars
 rw [hv] at ho
 refine h3 _ S _ ⟨C, ⟨h1.box.fr hst (fun e => d2 e.symm), ?_, h1.out.fr hst fun k hk e => d3 (by rw [← e]; exact hk), h1.code.fr hst fun k hk e => d1 (by rw [← e]; exact hk), h1.tabs.fr hst fun k hk e => d1 (by rw [← e]; exact hk), fun k hk => Nat.lt_of_lt_of_le (h1.clt k hk) hst.size, h1.cs, h1.cv, h1.co⟩, h2⟩ (fun k hk => .inl hk) (hst.mono fun k _ hk => (h2 k).2 (.inr (.inl (by rw [hk]; exact hob))))
 show OwnInts _ _ q.vv _
 rw [hv]
 exact ho.setN hn c x
/-- It tells one more. -/
theorem Lies.stOut (h : Lies w0 W l) (i : Nat) (hi : l[i]? = some (stT q)) {W1 : World} {g : Option Addr} {cap : Nat} (x : Int) (ho : OwnInts W1 2 (.slice g (q.out.length + 1) cap) (q.out ++ [x])) (hf : Fr W W1 (fun k => q.ov.ownBlock = some k))
  (hat : (Value.slice g (q.out.length + 1) cap).ownBlock = q.ov.ownBlock ∨ ∀ k, (Value.slice g (q.out.length + 1) cap).ownBlock = some k → W.heap.size ≤ k) :
  Lies w0 (W1.setCell ⟨q.sb, 4, none⟩ (.slice g (q.out.length + 1) cap)) (l.set i (stT { q with ov := .slice g (q.out.length + 1) cap, out := q.out ++ [x] })) := by
 obtain ⟨S, ⟨C, h1, h2⟩, _, h3⟩ := h.get i _ hi
 have hst := Fr.store W1 q.sb 4 (.slice g (q.out.length + 1) cap)
 have hlt := h1.box.lt
 have hnb : ∀ k, (Value.slice g (q.out.length + 1) cap).ownBlock = some k → ¬ C k ∧ k ≠ q.sb := fun k hk => by
  rcases hat with e | e
  ·exact h1.co k (by rw [← e]; exact hk)
  ·have := e k hk
   exact ⟨fun hc => by have := h1.clt k hc; omega, by omega⟩
 have hcf : ∀ k, C k → ¬ q.ov.ownBlock = some k := fun k hk e => (h1.co k e).1 hk
 have hcs : ∀ k, C k → ¬ k = q.sb := fun k hk e => h1.cs (by rw [← e]; exact hk)
 refine h3 _ (fun k => ({ q with ov := .slice g (q.out.length + 1) cap, out := q.out ++ [x] } : StV).has C k) _ ⟨C, ⟨?_, ?_, ?_, (h1.code.fr hf hcf).fr hst hcs, (h1.tabs.fr hf hcf).fr hst hcs, fun k hk => Nat.lt_of_lt_of_le (Nat.lt_of_lt_of_le (h1.clt k hk) hf.size) hst.size, h1.cs, fun k hk => ⟨(h1.cv k hk).1, (h1.cv k hk).2.1, ?_⟩, hnb⟩, fun k => Iff.rfl⟩ (fun k hk => ?_) ?_
 ·exact (h1.box.fr hf (fun e => (h1.co _ e).2 rfl)).set 4 _
 ·exact (h1.vars.fr hf fun k hk e => (h1.cv k hk).2.2 e).fr hst fun k hk e => (h1.cv k hk).2.1 e
 ·exact ho.fr hst fun k hk e => (hnb k hk).2 e
 ·intro e
  rcases hat with e2 | e2
  ·exact (h1.cv k hk).2.2 (by rw [← e2]; exact e)
  ·have := e2 k e
   have := h1.vars.lt k hk
   omega
 ·rcases hk with rfl | hk | hk | hk
  ·exact .inl ((h2 _).2 (.inl rfl))
  ·exact .inl ((h2 _).2 (.inr (.inl hk)))
  ·rcases hat with e | e
   ·exact .inl ((h2 _).2 (.inr (.inr (.inl (by rw [← e]; exact hk)))))
   ·exact .inr (e k hk)
  ·exact .inl ((h2 _).2 (.inr (.inr (.inr hk))))
 ·exact (hf.mono fun k _ hk => (h2 k).2 (.inr (.inr (.inl hk)))).trans hst fun k _ hk => (h2 k).2 (.inl hk)
end
end Go.Proofs.YtgpekgnhbccnoaaGreat
namespace Go.Proofs.YtgpekgnhbccnoaaGreat
open Go Go.RowKit

/-- The document's state: where it lies, its slices, what they read as. -/
structure DStV where
 sb : Nat
 lv : Value
 vv : Value
 ov : Value
 L : List InstrD
 at' : Nat
 vars : List Int
 out : List Int
abbrev DStV.cs (q : DStV) : List Value := [q.lv, .int .i64 q.at', q.vv, q.ov]
structure DStAt (w : World) (q : DStV) (C : Nat → Prop) : Prop where
 box : Bk w q.sb 56 q.cs
 vars : OwnInts w 2 q.vv q.vars
 out : OwnInts w 2 q.ov q.out
 code : Stay w C (fun w => CodeAt w q.lv q.L)
 clt : ∀ k, C k → k < w.heap.size
 cs : ¬ C q.sb
 cv : ∀ k, q.vv.ownBlock = some k → ¬ C k ∧ k ≠ q.sb ∧ q.ov.ownBlock ≠ some k
 co : ∀ k, q.ov.ownBlock = some k → ¬ C k ∧ k ≠ q.sb
def DStV.has (q : DStV) (C : Nat → Prop) (k : Nat) : Prop := k = q.sb ∨ q.vv.ownBlock = some k ∨ q.ov.ownBlock = some k ∨ C k
theorem DStAt.fr {w w' : World} {q : DStV} {C T : Nat → Prop} (h : DStAt w q C) (hf : Fr w w' T) (hd : ∀ k, q.has C k → ¬ T k) : DStAt w' q C where
 box := h.box.fr hf (hd _ (.inl rfl))
 vars := h.vars.fr hf fun k hk => hd k (.inr (.inl hk))
 out := h.out.fr hf fun k hk => hd k (.inr (.inr (.inl hk)))
 code := h.code.fr hf fun k hk => hd k (.inr (.inr (.inr hk)))
 clt k hk := Nat.lt_of_lt_of_le (h.clt k hk) hf.size
 cs := h.cs
 cv := h.cv
 co := h.co
def dstT (q : DStV) : Thing where
 At w S := ∃ C, DStAt w q C ∧ ∀ k, S k ↔ q.has C k
 fr h hf hd := by
  obtain ⟨C, h1, h2⟩ := h
  exact ⟨C, h1.fr hf fun k hk => hd k ((h2 k).2 hk), h2⟩
 lt h k hk := by
  obtain ⟨C, h1, h2⟩ := h
  rcases (h2 k).1 hk with rfl | hk | hk | hk
  ·exact h1.box.lt
  ·exact h1.vars.lt k hk
  ·exact h1.out.lt k hk
  ·exact h1.clt k hk
section
variable {w0 W : World} {l : List Thing} {q : DStV}
theorem Lies.dst (h : Lies w0 W l) (i : Nat) (hi : l[i]? = some (dstT q)) : Bk W q.sb 56 q.cs ∧ OwnInts W 2 q.vv q.vars ∧ OwnInts W 2 q.ov q.out ∧ CodeAt W q.lv q.L := by
 obtain ⟨S, ⟨C, h1, _⟩, _⟩ := h.get i _ hi
 exact ⟨h1.box, h1.vars, h1.out, h1.code.now⟩
/-- Where it is, is set. -/
theorem Lies.dstAt (h : Lies w0 W l) (i : Nat) (hi : l[i]? = some (dstT q)) (n : Nat) (x : Int) (hx : x = (n : Int)) : Lies w0 (W.setCell ⟨q.sb, 1, none⟩ (.int .i64 x)) (l.set i (dstT { q with at' := n })) := by
 subst hx
 obtain ⟨S, ⟨C, h1, h2⟩, _, h3⟩ := h.get i _ hi
 have hst := Fr.store W q.sb 1 (.int .i64 (n : Int))
 refine h3 _ S _ ⟨C, ⟨h1.box.set 1 _, h1.vars.fr hst fun k hk e => (h1.cv k hk).2.1 e, h1.out.fr hst fun k hk e => (h1.co k hk).2 e, h1.code.fr hst fun k hk e => h1.cs (by rw [← e]; exact hk), fun k hk => Nat.lt_of_lt_of_le (h1.clt k hk) hst.size, h1.cs, h1.cv, h1.co⟩, h2⟩ (fun k hk => .inl hk) (hst.mono fun k _ hk => (h2 k).2 (.inl hk))
/-- A variable is set. -/
theorem Lies.dstVar (h : Lies w0 W l) (i : Nat) (hi : l[i]? = some (dstT q)) {b n cap : Nat} (hv : q.vv = .slice (some ⟨b, 0, none⟩) n cap) (hn : n = q.vars.length) (c : Nat) (x : Int) : Lies w0 (W.setCell ⟨b, c, none⟩ (.int .i64 x)) (l.set i (dstT { q with vars := q.vars.set c x })) := by
 obtain ⟨S, ⟨C, h1, h2⟩, _, h3⟩ := h.get i _ hi
 have hst := Fr.store W b c (.int .i64 x)
 have hob : q.vv.ownBlock = some b := by rw [hv]; rfl
 obtain ⟨d1, d2, d3⟩ := h1.cv b hob
 have ho := h1.vars
 rw [hv] at ho
 refine h3 _ S _ ⟨C, ⟨h1.box.fr hst (fun e => d2 e.symm), ?_, h1.out.fr hst fun k hk e => d3 (by rw [← e]; exact hk), h1.code.fr hst fun k hk e => d1 (by rw [← e]; exact hk), fun k hk => Nat.lt_of_lt_of_le (h1.clt k hk) hst.size, h1.cs, h1.cv, h1.co⟩, h2⟩ (fun k hk => .inl hk) (hst.mono fun k _ hk => (h2 k).2 (.inr (.inl (by rw [hk]; exact hob))))
 show OwnInts _ _ q.vv _
 rw [hv]
 exact ho.setN hn c x
/-- It tells one more. -/
theorem Lies.dstOut (h : Lies w0 W l) (i : Nat) (hi : l[i]? = some (dstT q)) {W1 : World} {g : Option Addr} {cap : Nat} (x : Int) (ho : OwnInts W1 2 (.slice g (q.out.length + 1) cap) (q.out ++ [x])) (hf : Fr W W1 (fun k => q.ov.ownBlock = some k))
  (hat : (Value.slice g (q.out.length + 1) cap).ownBlock = q.ov.ownBlock ∨ ∀ k, (Value.slice g (q.out.length + 1) cap).ownBlock = some k → W.heap.size ≤ k) :
  Lies w0 (W1.setCell ⟨q.sb, 3, none⟩ (.slice g (q.out.length + 1) cap)) (l.set i (dstT { q with ov := .slice g (q.out.length + 1) cap, out := q.out ++ [x] })) := by
 obtain ⟨S, ⟨C, h1, h2⟩, _, h3⟩ := h.get i _ hi
 have hst := Fr.store W1 q.sb 3 (.slice g (q.out.length + 1) cap)
 have hlt := h1.box.lt
 have hnb : ∀ k, (Value.slice g (q.out.length + 1) cap).ownBlock = some k → ¬ C k ∧ k ≠ q.sb := fun k hk => by
  rcases hat with e | e
  ·exact h1.co k (by rw [← e]; exact hk)
  ·have := e k hk
   exact ⟨fun hc => by have := h1.clt k hc; omega, by omega⟩
 have hcf : ∀ k, C k → ¬ q.ov.ownBlock = some k := fun k hk e => (h1.co k e).1 hk
 have hcs : ∀ k, C k → ¬ k = q.sb := fun k hk e => h1.cs (by rw [← e]; exact hk)
 refine h3 _ (fun k => ({ q with ov := .slice g (q.out.length + 1) cap, out := q.out ++ [x] } : DStV).has C k) _ ⟨C, ⟨?_, ?_, ?_, (h1.code.fr hf hcf).fr hst hcs, fun k hk => Nat.lt_of_lt_of_le (Nat.lt_of_lt_of_le (h1.clt k hk) hf.size) hst.size, h1.cs, fun k hk => ⟨(h1.cv k hk).1, (h1.cv k hk).2.1, ?_⟩, hnb⟩, fun k => Iff.rfl⟩ (fun k hk => ?_) ?_
 ·exact (h1.box.fr hf (fun e => (h1.co _ e).2 rfl)).set 3 _
 ·exact (h1.vars.fr hf fun k hk e => (h1.cv k hk).2.2 e).fr hst fun k hk e => (h1.cv k hk).2.1 e
 ·exact ho.fr hst fun k hk e => (hnb k hk).2 e
 ·intro e
  rcases hat with e2 | e2
  ·exact (h1.cv k hk).2.2 (by rw [← e2]; exact e)
  ·have := e2 k e
   have := h1.vars.lt k hk
   omega
 ·rcases hk with rfl | hk | hk | hk
  ·exact .inl ((h2 _).2 (.inl rfl))
  ·exact .inl ((h2 _).2 (.inr (.inl hk)))
  ·rcases hat with e | e
   ·exact .inl ((h2 _).2 (.inr (.inr (.inl (by rw [← e]; exact hk)))))
   ·exact .inr (e k hk)
  ·exact .inl ((h2 _).2 (.inr (.inr (.inr hk))))
 ·exact (hf.mono fun k _ hk => (h2 k).2 (.inr (.inr (.inl hk)))).trans hst fun k _ hk => (h2 k).2 (.inl hk)
end
end Go.Proofs.YtgpekgnhbccnoaaGreat
