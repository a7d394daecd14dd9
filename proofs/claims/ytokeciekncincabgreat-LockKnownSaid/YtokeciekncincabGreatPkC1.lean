/-
  Memory laws for the walks of this seat: what a call leaves as it was ('Fr'), a block known whole ('Bk'), a slice that reads as integers ('IntsAt'), a slice that is owned ('Own').
  No condition.
  Locks in plain lists: who holds what, who wishes what; what is asked, given up, canceled.
  No condition.
  Things that lie apart from each other in memory, all laid by the call itself; no program in sight.
  No condition.
  Worlds that have come of another by new blocks and draws alone: for regions with a sink.
  No condition.
  Who holds a spot goes beside all others that hold it; the first that waits could not be granted.
  No condition.
  How many entries there are: never more than there is room for.
  No condition.
  Whose entries there are, of which spots; who leaves leaves nothing.
  No condition.
  Neighbours alike are one. Plain.
  Neighbours alike are one: step by step. Plain.
  Spot for spot given up is all given up. Plain.
  One call of the laws, by its kind; what it keeps. Plain.
  No condition.
-/
import Derived.WalkKit
import Derived.WalkSpells
import Derived.WalkLawsBesides
import Derived.OneCell
import Derived.Lib.Hide
import Derived.Maps.AppendAt
import Derived.Deep.AppendLies
namespace Go.Proofs.YtokeciekncincabGreat
open Go Go.RowKit

/-- From w to w' nothing has turned but the blocks of S and what is new. -/
structure Fr (w w' : World) (S : Nat → Prop) : Prop where
  os : w'.os = w.os
  tape : w'.tape = w.tape
  output : w'.output = w.output
  size : w.heap.size ≤ w'.heap.size
  block : ∀ k, k < w.heap.size → ¬ S k → w'.heap[k]? = w.heap[k]?

/-- No block. -/
def Nil : Nat → Prop := fun _ => False

theorem Fr.refl (w : World) (S : Nat → Prop) : Fr w w S := ⟨rfl, rfl, rfl, Nat.le_refl _, fun _ _ _ => rfl⟩
theorem Fr.mono {w w' : World} {S T : Nat → Prop} (h : Fr w w' S) (hs : ∀ k, k < w.heap.size → S k → T k) : Fr w w' T :=
  ⟨h.os, h.tape, h.output, h.size, fun k hk ht => h.block k hk fun hS => ht (hs k hk hS)⟩
/-- Two steps: the second may turn what the first may, and what is new. -/
theorem Fr.trans {a b c : World} {S T : Nat → Prop} (h : Fr a b S) (k : Fr b c T) (hs : ∀ j, j < a.heap.size → T j → S j) : Fr a c S :=
  ⟨k.os.trans h.os, k.tape.trans h.tape, k.output.trans h.output, Nat.le_trans h.size k.size,
   fun j hj hS => (k.block j (Nat.lt_of_lt_of_le hj h.size) fun ht => hS (hs j hj ht)).trans (h.block j hj hS)⟩
theorem Fr.trans0 {a b c : World} {S : Nat → Prop} (h : Fr a b S) (k : Fr b c Nil) : Fr a c S := h.trans k fun _ _ h => h.elim
theorem Fr.transS {a b c : World} {S : Nat → Prop} (h : Fr a b S) (k : Fr b c S) : Fr a c S := h.trans k fun _ _ h => h
theorem Fr.of_nil {a b : World} {S : Nat → Prop} (h : Fr a b Nil) : Fr a b S := h.mono fun _ _ h => h.elim
theorem Fr.alloc {a w : World} {S : Nat → Prop} (h : Fr a w S) (o : Obj) : Fr a (w.alloc o) S :=
  h.trans (T := Nil) ⟨rfl, rfl, rfl, by simp, fun k hk _ => Below.heap_alloc _ _ _ hk⟩ fun _ _ h => h.elim
theorem Fr.drew {a w : World} {S : Nat → Prop} (h : Fr a w S) : Fr a w.drew S := ⟨h.os, h.tape, h.output, h.size, h.block⟩
theorem Fr.drewN {a w : World} {S : Nat → Prop} (h : Fr a w S) (n : Nat) : Fr a (w.drewN n) S := by
  cases n with
  | zero => exact h
  | succ n => exact ⟨h.os, h.tape, h.output, h.size, h.block⟩
theorem Fr.setCell {a w : World} {S : Nat → Prop} (h : Fr a w S) {p : Addr} (hp : p.block < a.heap.size → S p.block) (u : Value) : Fr a (w.setCell p u) S :=
  h.trans (T := fun k => k = p.block) ⟨rfl, rfl, rfl, by simp [World.setCell], fun k _ hk => Below.heap_setCell _ _ _ _ hk⟩
    fun j hj hjp => by subst hjp; exact hp hj
theorem Fr.store (w : World) (b c : Nat) (u : Value) : Fr w (w.setCell ⟨b, c, none⟩ u) (fun k => k = b) :=
  Fr.setCell (S := fun k => k = b) (Fr.refl w _) (p := ⟨b, c, none⟩) (fun _ => rfl) u
theorem Fr.grown {a w w' : World} {S : Nat → Prop} {row : Option Nat} (h : Fr a w S) (hg : w.grownBy w' row) (hr : ∀ k, row = some k → k < a.heap.size → S k) : Fr a w' S :=
  h.trans (T := fun k => row = some k) ⟨hg.os, hg.tape, hg.output, hg.size, fun k hk hn => hg.block k hk fun e => hn e.symm⟩ fun j hj e => hr j e hj
theorem Fr.below {w w' : World} (h : Fr w w' Nil) : Below w.heap.size w w' := ⟨h.os, h.tape, h.output, h.size, fun k hk => h.block k hk (fun h => h)⟩
/-- What was there when base began is as it was, all that turned being of the call's own. -/
theorem Fr.below_of {w w' : World} {S : Nat → Prop} {B : Nat} (h : Fr w w' S) (hB : B ≤ w.heap.size) (hS : ∀ k, S k → B ≤ k) : Below B w w' :=
  ⟨h.os, h.tape, h.output, h.size, fun k hk => h.block k (by omega) fun hs => by have := hS k hs; omega⟩
theorem Fr.cell {w w' : World} {S : Nat → Prop} (h : Fr w w' S) {p : Addr} {v : Value} (hc : w.cell? p = some v) (hp : ¬ S p.block) : w'.cell? p = some v :=
  (World.cell?_of_block (h.block p.block (World.block_lt_of_cell? w p hc) hp)).trans hc
theorem Fr.frozen {w w' : World} {S : Nat → Prop} (h : Fr w w' S) {p : Addr} (hlt : p.block < w.heap.size) (hp : ¬ S p.block) : w'.frozen? p = w.frozen? p :=
  World.frozen?_of_block (h.block p.block hlt hp)
theorem Fr.own {w w' : World} {S : Nat → Prop} {base : Nat} {e : TypeId} {size : Nat} {v : Value} {n : Nat} {xs : List Value}
    (h : Fr w w' S) (ho : w.ownsRow base e size v n xs) (hv : ∀ k, v.ownBlock = some k → ¬ S k) : w'.ownsRow base e size v n xs := by
  refine ⟨ho.1, ?_⟩
  rcases ho.2 with hn | ⟨g, cap, cur, rfl, hb, hg, rest⟩
  · exact .inl hn
  · exact .inr ⟨g, cap, cur, rfl, hb, (h.block g (lt_of_block hg) (hv g rfl)).trans hg, rest⟩

theorem own_mono {w : World} {base base' : Nat} {e : TypeId} {size : Nat} {v : Value} {n : Nat} {xs : List Value} (h : w.ownsRow base e size v n xs) (hb : base' ≤ base) : w.ownsRow base' e size v n xs := by
  refine ⟨h.1, ?_⟩
  rcases h.2 with hn | ⟨g, cap, cur, hv, hg, r⟩
  · exact .inl hn
  · exact .inr ⟨g, cap, cur, hv, Nat.le_trans hb hg, r⟩

/-- Block g holds just these cells, and may be written. -/
def Bk (w : World) (g : Nat) (e : TypeId) (cs : List Value) : Prop := w.heap[g]? = some (.cells cs.toArray e (0, 0))
theorem Bk.lt {w : World} {g : Nat} {e : TypeId} {cs : List Value} (h : Bk w g e cs) : g < w.heap.size := lt_of_block h
theorem Bk.cell {w : World} {g : Nat} {e : TypeId} {cs : List Value} (h : Bk w g e cs) (j : Nat) : w.cell? ⟨g, j, none⟩ = cs[j]? := by
  unfold Bk at h; simp [World.cell?, h]
theorem Bk.free {w : World} {g : Nat} {e : TypeId} {cs : List Value} (h : Bk w g e cs) (j : Nat) : w.frozen? ⟨g, j, none⟩ = false := by
  unfold Bk at h; simp [World.frozen?, h]
theorem Bk.fr {w w' : World} {S : Nat → Prop} {g : Nat} {e : TypeId} {cs : List Value} (h : Bk w g e cs) (hf : Fr w w' S) (hg : ¬ S g) : Bk w' g e cs :=
  (hf.block g h.lt hg).trans h
theorem Bk.new (w : World) (e : TypeId) (cs : Array Value) : Bk (w.alloc (.cells cs e)) w.heap.size e cs.toList := by
  unfold Bk; rw [heap_alloc_new]
theorem Bk.set {w : World} {g : Nat} {e : TypeId} {cs : List Value} (h : Bk w g e cs) (j : Nat) (u : Value) : Bk (w.setCell ⟨g, j, none⟩ u) g e (cs.set j u) := by
  unfold Bk
  rw [heap_setCell_same w g j _ e u h]
  simp
theorem Bk.alloc {w : World} {g : Nat} {e : TypeId} {cs : List Value} (h : Bk w g e cs) (o : Obj) : Bk (w.alloc o) g e cs :=
  h.fr ((Fr.refl w Nil).alloc o) (fun h => h)
theorem Bk.drew {w : World} {g : Nat} {e : TypeId} {cs : List Value} (h : Bk w g e cs) : Bk w.drew g e cs := h

/-- Nothing of v lies below B. -/
def NewFrom (B : Nat) (v : Value) : Prop := ∀ k, v.ownBlock = some k → B ≤ k

theorem Bk.setRow {w : World} {g : Nat} {e : TypeId} {cs : List Value} (h : Bk w g e cs) (cs' : List Value) : Bk (w.setRow g cs'.toArray) g e cs' ∧ w.grownBy (w.setRow g cs'.toArray) (some g) :=
  ⟨setRow_heap w g _ _ e _ h, ⟨rfl, rfl, rfl, by simp, fun k _ hk => setRow_other w g k _ (fun e => hk (by simp [e]))⟩⟩
theorem sizeOf_run {P : Program} {e : TypeId} {i : TypeInfo} (hi : P.info? e = some i) (w : World) : (sizeOf e).run P w = .ok i.size w := by simp [sizeOf, typeInfo, hi]
/-- 'copy' into a block that is known whole, elements of whatever size. -/
theorem run_copy_bk {P : Program} {w : World} (dT sT ty e : TypeId) (i : TypeInfo) (hu : P.underlying dT = some (.slice e)) (hi : P.info? e = some i) (g o dLen dCap : Nat) (ad : Addr) (sLen sCap m : Nat) {e' : TypeId} {cs : List Value}
    (hg : Bk w g e' cs) (news : List Value) (hm : Nat.min sLen dLen = m) (hl : news.length = m * i.size) (hnews : ∀ j u, news[j]? = some u → w.cell? (ad.add j) = some u) (hfit : o + news.length ≤ cs.length) (h1 : ∀ u ∈ news, u.oneCell' = true) :
    ∃ w', (Builtin.copy_ #[dT, sT] ty #[.slice (some ⟨g, o, none⟩) dLen dCap, .slice (some ad) sLen sCap]).run P w = .ok (goInt m) w' ∧ Bk w' g e' (cs.take o ++ news ++ cs.drop (o + news.length)) ∧ w.grownBy w' (some g) := by
  have hf := run_firstCells_some (P := P) w i.size m ad sLen sCap news hl hnews
  have hst := run_storeCells_at P g o e' news 0 cs.toArray w hg (by simpa using hfit) h1
  simp only [Nat.add_zero] at hst
  refine ⟨_, ?_, (hg.setRow _).1, (hg.setRow _).2⟩
  simp [Builtin.copy_, run_underlying hu, Builtin.lenOf, sizeOf_run hi, hm, hf, hst]
/-- 'append(s, make([]T, l)...)' where there is no room: a new row. -/
theorem run_append_zeros {P : Program} {w : World} (t tn ty e : TypeId) (i : TypeInfo) (z : Value) (kn : IntKind) (ht : P.underlying t = some (.slice e)) (htn : P.underlying tn = some (.int kn)) (hi : P.info? e = some i) (hz : i.zero = some z)
    (a : Addr) (n cap : Nat) (xs : List Value) (hx : xs.length = n * i.size) (hxs : ∀ j u, xs[j]? = some u → w.cell? (a.add j) = some u) (l : Nat) (hl : 0 < l) (hs : 0 < i.size) (hcap : cap < n + l) (hnc : n ≤ cap) (hb : (n + l) * i.bytes ≤ 1000000000) (hb1 : n + l ≤ 1000000000) (L : Int) (hL : L = (l : Int)) :
    ∃ (nc : Nat) (w' : World) (rest : List Value), (Builtin.append_ #[t, tn] ty #[.slice (some a) n cap, .int .i64 L]).run P w = .ok (.slice (some ⟨w.heap.size, 0, none⟩) (n + l) nc) w' ∧ Bk w' w.heap.size e (xs ++ (Builtin.zeroCells z.cells l).toList ++ rest) ∧ n + l ≤ nc ∧ nc ≤ maxLen ∧
      (z.cells.size = i.size → (xs ++ (Builtin.zeroCells z.cells l).toList ++ rest).length = nc * i.size) ∧ Fr w w' Nil := by
  subst hL
  have hw : IntKind.i64.wrap (l : Int) = l := by rw [IntKind.wrap_i64]; omega
  have hneg : ¬ ((l : Int) < 0) := by omega
  have h48i : ¬ (281474976710656 < (l : Int) * (i.bytes : Int)) := by
    rw [← Int.natCast_mul]
    have : l * i.bytes ≤ (n + l) * i.bytes := Nat.mul_le_mul_right _ (by omega)
    omega
  have hns : ¬ (l * i.size = 0) := Nat.mul_ne_zero (by omega) (by omega)
  have h63 : ¬ ((9223372036854775807 : Int) < (n : Int) + (l : Int)) := by omega
  have hge := grownCap_ge w (n + l) cap e
  have hlm := grownCap_le_maxLen w (n + l) cap e (by unfold maxLen; omega)
  have hroom : ¬ (n + l ≤ cap) := by omega
  have h48 : ¬ (281474976710656 < Builtin.nextslicecap (n + l) cap * i.bytes) := by
    have := growslice_fits (bytes := i.bytes) (need := n + l) (old := cap) (by omega) (by omega)
    omega
  have hf := run_firstCells_some (P := P) w.drew i.size n a n cap xs hx hxs
  refine ⟨grownCap w (n + l) cap e, w.drew.alloc (.cells (xs.toArray ++ Builtin.zeroCells z.cells l ++ Builtin.zeroCells z.cells (grownCap w (n + l) cap e - (n + l))) e), (Builtin.zeroCells z.cells (grownCap w (n + l) cap e - (n + l))).toList, ?_, ?_, hge, hlm, ?_, (Fr.refl w Nil).drew.alloc _⟩
  · simp [Builtin.append_, run_underlying ht, run_underlying htn, sizeOf, typeInfo, zeroValue, hi, hz, asInt, asIntOf, hw, hneg, hns, h63, h48i, h48, hroom, Question.forced, newRow, grownCap] at hf ⊢
    simp [hf]
  · have := Bk.new w.drew e (xs.toArray ++ Builtin.zeroCells z.cells l ++ Builtin.zeroCells z.cells (grownCap w (n + l) cap e - (n + l)))
    simpa using this
  · intro hzs
    simp [size_zeroCells, hzs, hx, ← Nat.add_mul]
    congr 1; omega

/-- v is a slice that reads as the integers xs. -/
def IntsAt (w : World) (v : Value) (xs : List Int) : Prop :=
  (v = .slice none 0 0 ∧ xs = []) ∨ ∃ a cap, v = .slice (some a) xs.length cap ∧ ∀ j u, (xs.map (Value.int .i64))[j]? = some u → w.cell? (a.add j) = some u

/-- v is a slice over a row of its own that holds the integers xs (type e). -/
def OwnInts (w : World) (e : TypeId) (v : Value) (xs : List Int) : Prop := w.ownsRow 0 e 1 v xs.length (xs.map (Value.int .i64))

theorem OwnInts.at {w : World} {e : TypeId} {v : Value} {xs : List Int} (h : OwnInts w e v xs) : IntsAt w v xs := by
  rcases h.2 with ⟨rfl, hn⟩ | ⟨g, cap, cur, rfl, rest⟩
  · exact .inl ⟨rfl, List.eq_nil_of_length_eq_zero hn⟩
  · exact .inr ⟨_, cap, rfl, h.cells (g := g) rfl⟩
theorem OwnInts.shape {w : World} {e : TypeId} {v : Value} {xs : List Int} (h : OwnInts w e v xs) : ∃ a cap, v = .slice a xs.length cap := by
  rcases h.2 with ⟨rfl, hn⟩ | ⟨g, cap, cur, rfl, rest⟩
  · exact ⟨none, 0, by rw [hn]⟩
  · exact ⟨_, cap, rfl⟩
theorem OwnInts.fr {w w' : World} {S : Nat → Prop} {e : TypeId} {v : Value} {xs : List Int} (h : OwnInts w e v xs) (hf : Fr w w' S) (hv : ∀ k, v.ownBlock = some k → ¬ S k) : OwnInts w' e v xs :=
  hf.own h hv
theorem OwnInts.lt {w : World} {e : TypeId} {v : Value} {xs : List Int} (h : OwnInts w e v xs) : ∀ k, v.ownBlock = some k → k < w.heap.size := fun k hk => (World.ownsRow.lt h k hk).2
theorem OwnInts.form {w : World} {e : TypeId} {v : Value} {xs : List Int} (h : OwnInts w e v xs) (hn : 0 < xs.length) : ∃ b cap, v = .slice (some ⟨b, 0, none⟩) xs.length cap ∧ xs.length ≤ cap := by
  rcases h.2 with ⟨_, h0⟩ | ⟨g, cap, cur, hv, _, _, hc, _⟩
  · omega
  · exact ⟨g, cap, hv, hc⟩
theorem OwnInts.cell {w : World} {e : TypeId} {b n cap : Nat} {xs : List Int} (h : OwnInts w e (.slice (some ⟨b, 0, none⟩) n cap) xs) (hn : n = xs.length) (c : Nat) (hc : c < xs.length) : w.cell? ⟨b, c, none⟩ = some (.int .i64 (xs.getD c 0)) := by
  subst hn
  rw [World.ownsRow.cellAt h c (by omega)]
  simp [hc]
theorem OwnInts.free {w : World} {e : TypeId} {b n cap : Nat} {xs : List Int} (h : OwnInts w e (.slice (some ⟨b, 0, none⟩) n cap) xs) (hn : n = xs.length) (c : Nat) : w.frozen? ⟨b, c, none⟩ = false := by
  subst hn
  exact World.ownsRow.frozenAt h c
/-- What was read stays so while old blocks stay. -/
theorem IntsAt.fr {w w' : World} {v : Value} {xs : List Int} {S : Nat → Prop} (h : IntsAt w v xs) (hf : Fr w w' S) (hv : ∀ k, v.ownBlock = some k → ¬ S k) : IntsAt w' v xs := by
  rcases h with h | ⟨a, cap, rfl, hc⟩
  · exact .inl h
  · refine .inr ⟨a, cap, rfl, fun j u hu => hf.cell (hc j u hu) ?_⟩
    have : (a.add j).block = a.block := by unfold Addr.add; split <;> rfl
    rw [this]; exact hv _ rfl
theorem IntsAt.form {w : World} {v : Value} {xs : List Int} (h : IntsAt w v xs) (hn : 0 < xs.length) : ∃ b off cap, v = .slice (some ⟨b, off, none⟩) xs.length cap ∧ ∀ j n, xs[j]? = some n → w.cell? ⟨b, off + j, none⟩ = some (.int .i64 n) := by
  rcases h with ⟨_, rfl⟩ | ⟨a, cap, rfl, hc⟩
  · simp at hn
  · obtain ⟨b, off, spot⟩ := a
    have h0 := hc 0 (.int .i64 xs[0]) (by simp [hn])
    have hsp : spot = none := by
      cases spot with
      | none => rfl
      | some s =>
        simp only [Addr.add, if_true, World.cell?] at h0
        split at h0 <;> simp at h0
    subst hsp
    refine ⟨b, off, cap, rfl, fun j n hj => ?_⟩
    have := hc j (.int .i64 n) (by simp [hj])
    rwa [Addr.add_lit] at this
theorem IntsAt.shape {w : World} {v : Value} {xs : List Int} (h : IntsAt w v xs) : ∃ a cap, v = .slice a xs.length cap := by
  rcases h with ⟨rfl, rfl⟩ | ⟨a, cap, rfl, _⟩
  · exact ⟨none, 0, rfl⟩
  · exact ⟨some a, cap, rfl⟩

theorem split_at {α : Type} {l : List α} {i : Nat} {x : α} (h : l[i]? = some x) : l = l.take i ++ x :: l.drop (i + 1) ∧ (l.take i).length = i := by
  obtain ⟨hi, rfl⟩ := List.getElem?_eq_some_iff.1 h
  refine ⟨?_, by simp; omega⟩
  rw [← List.drop_eq_getElem_cons hi, List.take_append_drop]
theorem set_at {α : Type} (A B : List α) (x y : α) : (A ++ x :: B).set A.length y = A ++ y :: B := by simp
theorem nodup_mid {l1 l2 l3 : List Nat} (h : (l1 ++ l2 ++ l3).Nodup) : (∀ k ∈ l2, k ∉ l1 ∧ k ∉ l3) ∧ l2.Nodup := by
  rw [List.nodup_append] at h
  obtain ⟨h12, _, h3⟩ := h
  rw [List.nodup_append] at h12
  obtain ⟨_, h2, h4⟩ := h12
  exact ⟨fun k hk => ⟨fun h1 => h4 k h1 k hk rfl, fun h5 => h3 k (by simp [hk]) k h5 rfl⟩, h2⟩
/-- A piece is replaced by one of the same blocks and of new ones. -/
theorem nodup_replace {l1 l2 l3 l2' : List Nat} {N : Nat} (h : (l1 ++ l2 ++ l3).Nodup) (h2 : l2'.Nodup) (hk : ∀ k ∈ l2', k ∈ l2 ∨ N ≤ k) (h1 : ∀ k ∈ l1, k < N) (h3 : ∀ k ∈ l3, k < N) : (l1 ++ l2' ++ l3).Nodup := by
  have hm := (nodup_mid h).1
  rw [List.nodup_append] at h ⊢
  obtain ⟨h12, hn3, h4⟩ := h
  rw [List.nodup_append] at h12
  obtain ⟨hn1, hn2, h5⟩ := h12
  refine ⟨List.nodup_append.2 ⟨hn1, h2, fun a ha b hb hab => ?_⟩, hn3, fun a ha b hb hab => ?_⟩
  · subst hab
    rcases hk a hb with h | h
    · exact (hm a h).1 ha
    · have := h1 a ha; omega
  · subst hab
    rw [List.mem_append] at ha
    rcases ha with ha | ha
    · exact h4 a (by simp [ha]) a hb rfl
    · rcases hk a ha with h | h
      · exact (hm a h).2 hb
      · have := h3 a hb; omega

/-- What hangs on a result and the worlds, kept shut. -/
def Ret (R : Value → World → Prop) (e : Ending) (w' : World) : Prop := ∃ v, e = .returned v ∧ R v w'
theorem Ret.mk {R : Value → World → Prop} {v : Value} {w' : World} (h : R v w') : Ret R (.returned v) w' := ⟨v, rfl, h⟩
/-- A slice of n elements is handed back. -/
def RetSl (n : Nat) (R : Value → World → Prop) (e : Ending) (w' : World) : Prop := ∃ a cap, e = .returned (.slice a n cap) ∧ R (.slice a n cap) w'
end Go.Proofs.YtokeciekncincabGreat
namespace Go.Proofs.YtokeciekncincabGreat

abbrev Spot := Int × Bool × Int
/-- What a mode allows, bit by bit. -/
def alB (m : Int) : Bool × Bool × Bool × Bool :=
  if m = 1 then (true, false, false, false) else if m = 2 then (true, true, false, false) else if m = 3 then (true, false, true, false)
  else if m = 4 then (true, true, true, false) else if m = 5 then (true, true, true, true) else (false, false, false, false)
def covM (a b : Int) : Bool := (!(alB b).1 || (alB a).1) && (!(alB b).2.1 || (alB a).2.1) && (!(alB b).2.2.1 || (alB a).2.2.1) && (!(alB b).2.2.2 || (alB a).2.2.2)
def leastM (s : Bool × Bool × Bool × Bool) : Int := if s.2.2.2 then 5 else if s.2.2.1 && s.2.1 then 4 else if s.2.2.1 then 3 else if s.2.1 then 2 else if s.1 then 1 else 0
def joinM (a b : Int) : Int := leastM ((alB a).1 || (alB b).1, (alB a).2.1 || (alB b).2.1, (alB a).2.2.1 || (alB b).2.2.1, (alB a).2.2.2 || (alB b).2.2.2)
def barsM (a b : Int) : Bool := (alB a).2.2.2 || ((alB a).2.1 && (alB b).2.2.1)
def besM (a b : Int) : Bool := !(alB a).1 || !(alB b).1 || (!barsM a b && !barsM b a)
def ModeOk (m : Int) : Prop := 0 ≤ m ∧ m ≤ 5
theorem mode_cases {m : Int} (h : ModeOk m) : m = 0 ∨ m = 1 ∨ m = 2 ∨ m = 3 ∨ m = 4 ∨ m = 5 := by unfold ModeOk at h; omega
theorem besM_comm (a b : Int) : besM a b = besM b a := by
  unfold besM
  cases (alB a).1 <;> cases (alB b).1 <;> cases barsM a b <;> cases barsM b a <;> rfl
theorem joinM_ok {a b : Int} (ha : ModeOk a) (hb : ModeOk b) : ModeOk (joinM a b) ∧ covM (joinM a b) a = true ∧ covM (joinM a b) b = true := by
  rcases mode_cases ha with rfl | rfl | rfl | rfl | rfl | rfl <;> rcases mode_cases hb with rfl | rfl | rfl | rfl | rfl | rfl <;> refine ⟨?_, by decide, by decide⟩ <;> (unfold ModeOk; decide)
theorem joinM_ne {a b : Int} (ha : ModeOk a) (hb : ModeOk b) (h : b ≠ 0) : joinM a b ≠ 0 := by
  rcases mode_cases ha with rfl | rfl | rfl | rfl | rfl | rfl <;> rcases mode_cases hb with rfl | rfl | rfl | rfl | rfl | rfl <;> first | exact absurd rfl h | decide
theorem besM_mono {a b c : Int} (ha : ModeOk a) (hb : ModeOk b) (hc : ModeOk c) (h : covM b a = true) (h2 : besM c a = false) : besM c b = false := by
  revert h h2
  rcases mode_cases ha with rfl | rfl | rfl | rfl | rfl | rfl <;> rcases mode_cases hb with rfl | rfl | rfl | rfl | rfl | rfl <;> rcases mode_cases hc with rfl | rfl | rfl | rfl | rfl | rfl <;> decide

/-- An entry: that a number holds a spot in a mode, or wishes to. -/
structure LkE where
  s : Spot
  who : Int
  m : Int
deriving DecidableEq
structure LkS where
  most : Int
  H : List LkE
  W : List LkE
def heldL (H : List LkE) (who : Int) (s : Spot) : Int := match H.find? (fun e => e.who == who && e.s == s) with
  | some e => e.m
  | none => 0
def wishL (W : List LkE) (who : Int) : Option LkE := W.find? (fun e => e.who == who)
def upL (H W : List LkE) (s : Spot) : List LkE := W.filter fun e => e.s == s && heldL H e.who s != 0
def restL (H W : List LkE) (s : Spot) : List LkE := W.filter fun e => e.s == s && heldL H e.who s == 0
def queueL (H W : List LkE) (s : Spot) : List LkE := upL H W s ++ restL H W s
def canL (H : List LkE) (who : Int) (s : Spot) (m : Int) : Bool := H.all fun e => !(e.s == s && e.who != who && !besM m e.m)
/-- Without a number's entries at a spot. -/
def dropS (l : List LkE) (who : Int) (s : Spot) : List LkE := l.filter fun e => e.who != who || e.s != s
def dropA (l : List LkE) (who : Int) : List LkE := l.filter fun e => e.who != who
def putH (H : List LkE) (who : Int) (s : Spot) (m : Int) : List LkE := dropS H who s ++ [⟨s, who, m⟩]
def usedL (D : LkS) : Nat := D.H.length + (D.W.filter fun e => heldL D.H e.who e.s == 0).length
def mayL (s : Spot) (m : Int) : Bool := decide (0 ≤ m) && decide (m ≤ 5) && m != 0 && decide (0 ≤ s.1) && (s.2.1 || s.2.2 == 0)
/-- What Ask answers (granted, error), and what is left. -/
def askL (D : LkS) (who : Int) (s : Spot) (m : Int) : (Bool × Int) × LkS :=
  if mayL s m = false then ((false, 2), D)
  else if (wishL D.W who).isSome then ((false, 4), D)
  else if covM (heldL D.H who s) m then ((true, 0), D)
  else if heldL D.H who s = 0 ∧ D.most ≤ (usedL D : Int) then ((false, 3), D)
  else if canL D.H who s (joinM (heldL D.H who s) m) ∧ (heldL D.H who s ≠ 0 ∨ queueL D.H D.W s = []) then ((true, 0), { D with H := putH D.H who s (joinM (heldL D.H who s) m) })
  else ((false, 0), { D with W := D.W ++ [⟨s, who, joinM (heldL D.H who s) m⟩] })
/-- One grant. -/
def grantL (D : LkS) (e : LkE) (s : Spot) : LkS := { D with H := putH D.H e.who s e.m, W := dropA D.W e.who }
def regrantL : Nat → LkS → Spot → List Int × LkS
  | 0, D, _ => ([], D)
  | t + 1, D, s => match queueL D.H D.W s with
    | [] => ([], D)
    | e :: _ => if canL D.H e.who s e.m then (e.who :: (regrantL t (grantL D e s) s).1, (regrantL t (grantL D e s) s).2) else ([], D)
def wokenL : LkS → List Spot → List Int × LkS
  | D, [] => ([], D)
  | D, s :: l => ((regrantL D.W.length D s).1 ++ (wokenL (regrantL D.W.length D s).2 l).1, (wokenL (regrantL D.W.length D s).2 l).2)
def freeL (D : LkS) (who : Int) (s : Spot) : (List Int × Int) × LkS :=
  if (wishL D.W who).isSome then (([], 4), D)
  else if heldL D.H who s = 0 then (([], 5), D)
  else (((wokenL { D with H := dropS D.H who s } [s]).1, 0), (wokenL { D with H := dropS D.H who s } [s]).2)
def cancelL (D : LkS) (who : Int) : (List Int × Int) × LkS := match wishL D.W who with
  | none => (([], 5), D)
  | some e => (((wokenL { D with W := dropA D.W who } [e.s]).1, 0), (wokenL { D with W := dropA D.W who } [e.s]).2)
theorem heldL_nil (who : Int) (s : Spot) : heldL [] who s = 0 := rfl
theorem heldL_append (a b : List LkE) (who : Int) (s : Spot) : heldL (a ++ b) who s = if (a.find? (fun e => e.who == who && e.s == s)).isSome then heldL a who s else heldL b who s := by
  unfold heldL
  rw [List.find?_append]
  cases a.find? (fun e => e.who == who && e.s == s) with
  | none => rfl
  | some e => rfl
theorem dropS_find (H : List LkE) (who : Int) (s : Spot) : (dropS H who s).find? (fun e => e.who == who && e.s == s) = none := by
  rw [List.find?_eq_none]
  intro e he hc
  have h2 := (List.mem_filter.1 he).2
  rw [Bool.or_eq_true, bne_iff_ne, bne_iff_ne] at h2
  rw [Bool.and_eq_true, beq_iff_eq, beq_iff_eq] at hc
  exact h2.elim (fun h => h hc.1) fun h => h hc.2
theorem dropS_find_ne (H : List LkE) {who w' : Int} {s s' : Spot} (h : ¬ (w' = who ∧ s' = s)) : (dropS H who s).find? (fun e => e.who == w' && e.s == s') = H.find? fun e => e.who == w' && e.s == s' := by
  induction H with
  | nil => rfl
  | cons e H ih =>
    unfold dropS at ih ⊢
    rw [List.filter_cons]
    by_cases h1 : e.who = w' ∧ e.s = s'
    · have h2 : (e.who != who || e.s != s) = true := by
        rw [Bool.or_eq_true, bne_iff_ne, bne_iff_ne]
        by_cases h4 : e.who = who
        · exact .inr fun h5 => h ⟨by rw [← h1.1]; exact h4, by rw [← h1.2]; exact h5⟩
        · exact .inl h4
      have h3 : (e.who == w' && e.s == s') = true := by rw [Bool.and_eq_true, beq_iff_eq, beq_iff_eq]; exact h1
      rw [if_pos h2, List.find?_cons, List.find?_cons, h3]
    · have h3 : (e.who == w' && e.s == s') = false := by
        rw [Bool.and_eq_false_iff, beq_eq_false_iff_ne, beq_eq_false_iff_ne]
        by_cases h4 : e.who = w'
        · exact .inr fun h5 => h1 ⟨h4, h5⟩
        · exact .inl h4
      rw [List.find?_cons, h3]
      split
      · rw [List.find?_cons, h3]; exact ih
      · exact ih
theorem heldL_dropS (H : List LkE) (who w' : Int) (s s' : Spot) : heldL (dropS H who s) w' s' = if w' = who ∧ s' = s then 0 else heldL H w' s' := by
  by_cases h : w' = who ∧ s' = s
  · obtain ⟨rfl, rfl⟩ := h
    rw [if_pos ⟨rfl, rfl⟩]
    unfold heldL
    rw [dropS_find]
  · rw [if_neg h]
    unfold heldL
    rw [dropS_find_ne H h]
theorem heldL_putH (H : List LkE) (who w' : Int) (s s' : Spot) (m : Int) : heldL (putH H who s m) w' s' = if w' = who ∧ s' = s then m else heldL H w' s' := by
  unfold putH
  rw [heldL_append]
  by_cases h : w' = who ∧ s' = s
  · obtain ⟨rfl, rfl⟩ := h
    rw [dropS_find]
    simp [heldL]
  · rw [if_neg h, heldL_dropS, if_neg h]
    split
    · rfl
    · rename_i h2
      have h3 : heldL [(⟨s, who, m⟩ : LkE)] w' s' = 0 := by
        unfold heldL
        have : ((who == w' && s == s') : Bool) = false := by
          rw [Bool.and_eq_false_iff, beq_eq_false_iff_ne, beq_eq_false_iff_ne]
          by_cases h4 : who = w'
          · exact .inr fun h5 => h ⟨h4.symm, h5.symm⟩
          · exact .inl h4
        rw [List.find?_cons]
        simp only [this]
        rfl
      have h4 : heldL (dropS H who s) w' s' = 0 := by
        unfold heldL
        cases e : (dropS H who s).find? (fun e => e.who == w' && e.s == s') with
        | none => rfl
        | some x => rw [e] at h2; exact absurd rfl h2
      rw [h3]
      rw [heldL_dropS, if_neg h] at h4
      exact h4.symm
/-- What is kept. -/
structure LInv (D : LkS) : Prop where
  hn : D.H.Pairwise fun a b => ¬ (a.who = b.who ∧ a.s = b.s)
  hm : ∀ e ∈ D.H, ModeOk e.m ∧ e.m ≠ 0
  wn : D.W.Pairwise fun a b => a.who ≠ b.who
  wm : ∀ e ∈ D.W, ModeOk e.m ∧ e.m ≠ 0
theorem heldL_mem {H : List LkE} (hn : H.Pairwise fun a b => ¬ (a.who = b.who ∧ a.s = b.s)) {e : LkE} (h : e ∈ H) : heldL H e.who e.s = e.m := by
  induction H with
  | nil => cases h
  | cons x H ih =>
    rw [List.pairwise_cons] at hn
    unfold heldL
    rw [List.find?_cons]
    by_cases hx : x.who = e.who ∧ x.s = e.s
    · have hb : (x.who == e.who && x.s == e.s) = true := by rw [Bool.and_eq_true, beq_iff_eq, beq_iff_eq]; exact hx
      rw [hb]
      rcases List.mem_cons.1 h with rfl | h
      · rfl
      · exact absurd hx (hn.1 e h)
    · have hb : (x.who == e.who && x.s == e.s) = false := by
        rw [Bool.and_eq_false_iff, beq_eq_false_iff_ne, beq_eq_false_iff_ne]
        by_cases h4 : x.who = e.who
        · exact .inr fun h5 => hx ⟨h4, h5⟩
        · exact .inl h4
      rw [hb]
      rcases List.mem_cons.1 h with rfl | h
      · exact absurd ⟨rfl, rfl⟩ hx
      · exact ih hn.2 h
theorem heldL_in {H : List LkE} {who : Int} {s : Spot} (h : heldL H who s ≠ 0) : ∃ e ∈ H, e.who = who ∧ e.s = s ∧ e.m = heldL H who s := by
  unfold heldL at h ⊢
  cases hf : H.find? (fun e => e.who == who && e.s == s) with
  | none => rw [hf] at h; exact absurd rfl h
  | some e =>
    have h1 := List.mem_of_find?_eq_some hf
    have h2 := List.find?_some hf
    rw [Bool.and_eq_true, beq_iff_eq, beq_iff_eq] at h2
    exact ⟨e, h1, h2.1, h2.2, rfl⟩
theorem heldL_ok {D : LkS} (h : LInv D) (who : Int) (s : Spot) : ModeOk (heldL D.H who s) := by
  by_cases h0 : heldL D.H who s = 0
  · rw [h0]; exact ⟨by decide, by decide⟩
  · obtain ⟨e, he, _, _, hm⟩ := heldL_in h0
    rw [← hm]
    exact (h.hm e he).1
theorem putH_inv {D : LkS} (h : LInv D) (who : Int) (s : Spot) {m : Int} (hm : ModeOk m) (h0 : m ≠ 0) : LInv { D with H := putH D.H who s m } := by
  refine ⟨?_, ?_, h.wn, h.wm⟩
  · show (putH D.H who s m).Pairwise _
    unfold putH dropS
    rw [List.pairwise_append]
    refine ⟨h.hn.filter _, List.pairwise_singleton _ _, fun a ha b hb => ?_⟩
    rw [List.mem_singleton] at hb
    subst hb
    have h2 := (List.mem_filter.1 ha).2
    rw [Bool.or_eq_true, bne_iff_ne, bne_iff_ne] at h2
    rintro ⟨h3, h4⟩
    exact h2.elim (fun h => h h3) fun h => h h4
  · intro e he
    rcases List.mem_append.1 he with he | he
    · exact h.hm e (List.mem_filter.1 he).1
    · rw [List.mem_singleton] at he
      subst he
      exact ⟨hm, h0⟩
theorem grantL_inv {D : LkS} (h : LInv D) {e : LkE} (he : e ∈ D.W) (s : Spot) : LInv (grantL D e s) := by
  have h1 := putH_inv h e.who s (h.wm e he).1 (h.wm e he).2
  exact ⟨h1.hn, h1.hm, h.wn.filter _, fun x hx => h.wm x (List.mem_filter.1 hx).1⟩
theorem queueL_mem {H W : List LkE} {s : Spot} {e : LkE} (h : e ∈ queueL H W s) : e ∈ W ∧ e.s = s := by
  unfold queueL upL restL at h
  rcases List.mem_append.1 h with h | h
  all_goals
    have h2 := (List.mem_filter.1 h).2
    rw [Bool.and_eq_true, beq_iff_eq] at h2
    exact ⟨(List.mem_filter.1 h).1, h2.1⟩
theorem regrantL_inv (s : Spot) : ∀ (t : Nat) (D : LkS), LInv D → LInv (regrantL t D s).2
  | 0, _, h => h
  | t + 1, D, h => by
    unfold regrantL
    split
    · exact h
    · rename_i e l hq
      split
      · exact regrantL_inv s t _ (grantL_inv h (queueL_mem (by rw [hq]; exact List.mem_cons_self)).1 s)
      · exact h
theorem wokenL_inv : ∀ (l : List Spot) (D : LkS), LInv D → LInv (wokenL D l).2
  | [], _, h => h
  | s :: l, D, h => wokenL_inv l _ (regrantL_inv s _ D h)
theorem askL_inv {D : LkS} (h : LInv D) (who : Int) (s : Spot) (m : Int) : LInv (askL D who s m).2 := by
  unfold askL
  split
  · exact h
  · rename_i hmay
    have hmay : mayL s m = true := by simpa using hmay
    unfold mayL at hmay
    simp only [Bool.and_eq_true, decide_eq_true_eq, bne_iff_ne] at hmay
    have hm : ModeOk m := ⟨hmay.1.1.1.1, hmay.1.1.1.2⟩
    have hj := joinM_ok (heldL_ok h who s) hm
    have hj0 := joinM_ne (heldL_ok h who s) hm hmay.1.1.2
    split
    · exact h
    · rename_i hw
      split
      · exact h
      · split
        · exact h
        · split
          · exact putH_inv h who s hj.1 hj0
          · refine ⟨h.hn, h.hm, ?_, fun e he => ?_⟩
            · show (D.W ++ [_]).Pairwise _
              rw [List.pairwise_append]
              refine ⟨h.wn, List.pairwise_singleton _ _, fun a ha b hb => ?_⟩
              rw [List.mem_singleton] at hb
              subst hb
              intro e
              apply hw
              unfold wishL
              rw [List.find?_isSome]
              exact ⟨a, ha, by rw [beq_iff_eq]; exact e⟩
            · rcases List.mem_append.1 he with he | he
              · exact h.wm e he
              · rw [List.mem_singleton] at he
                subst he
                exact ⟨hj.1, hj0⟩
/-! ### as the program has it: for each spot who holds it, who upgrades, who waits -/
def prs (l : List LkE) : List (Int × Int) := l.map fun e => (e.who, e.m)
def holdsOf (H : List LkE) (s : Spot) : List (Int × Int) := prs (H.filter fun e => e.s == s)
theorem prs_filter (l : List LkE) (who : Int) : prs (l.filter fun e => e.who != who) = (prs l).filter fun p => !decide (p.1 = who) := by
  unfold prs
  rw [List.filter_map]
  refine congrArg _ (List.filter_congr fun e _ => ?_)
  show (e.who != who) = !decide (e.who = who)
  by_cases h : e.who = who <;> simp [h]
theorem holdsOf_dropS (H : List LkE) (who : Int) (s : Spot) : holdsOf (dropS H who s) s = (holdsOf H s).filter fun p => !decide (p.1 = who) := by
  unfold holdsOf
  rw [← prs_filter]
  unfold dropS
  rw [List.filter_filter, List.filter_filter]
  refine congrArg _ (List.filter_congr fun e _ => ?_)
  by_cases h : e.s = s
  · simp [h]
  · have h1 : (e.s == s) = false := by rw [beq_eq_false_iff_ne]; exact h
    rw [h1]
    cases e.who != who <;> rfl
theorem holdsOf_dropS_ne (H : List LkE) (who : Int) {s s' : Spot} (h : s' ≠ s) : holdsOf (dropS H who s) s' = holdsOf H s' := by
  unfold holdsOf dropS
  rw [List.filter_filter]
  refine congrArg _ (List.filter_congr fun e _ => ?_)
  by_cases h1 : e.s = s'
  · have h2 : e.s ≠ s := by rw [h1]; exact h
    simp [h1, h]
  · simp [h1]
theorem holdsOf_append (a b : List LkE) (s : Spot) : holdsOf (a ++ b) s = holdsOf a s ++ holdsOf b s := by simp [holdsOf, prs]
theorem holdsOf_putH (H : List LkE) (who m : Int) (s : Spot) : holdsOf (putH H who s m) s = ((holdsOf H s).filter fun p => !decide (p.1 = who)) ++ [(who, m)] := by
  unfold putH
  rw [holdsOf_append, holdsOf_dropS]
  simp [holdsOf, prs]
theorem holdsOf_putH_ne (H : List LkE) (who m : Int) {s s' : Spot} (h : s' ≠ s) : holdsOf (putH H who s m) s' = holdsOf H s' := by
  unfold putH
  rw [holdsOf_append, holdsOf_dropS_ne H who h]
  have : holdsOf [(⟨s, who, m⟩ : LkE)] s' = [] := by simp [holdsOf, prs, Ne.symm h]
  rw [this, List.append_nil]
theorem canL_holds (H : List LkE) (who : Int) (s : Spot) (m : Int) : canL H who s m = (holdsOf H s).all fun p => p.1 == who || besM m p.2 := by
  unfold canL holdsOf prs
  rw [List.all_map, List.all_filter]
  congr 1
  funext e
  show (!(e.s == s && e.who != who && !besM m e.m)) = (!(e.s == s) || ((e.who == who) || besM m e.m))
  cases e.s == s <;> cases h : e.who == who <;> cases besM m e.m <;> simp [bne, h]
theorem upL_grant (H W : List LkE) (who m : Int) (s s' : Spot) : upL (putH H who s m) (dropA W who) s' = (upL H W s').filter fun e => e.who != who := by
  unfold upL dropA
  rw [List.filter_filter, List.filter_filter]
  refine List.filter_congr fun e _ => ?_
  rw [heldL_putH]
  by_cases h : e.who = who
  · simp [h]
  · have h2 : ¬ (e.who = who ∧ s' = s) := fun h3 => h h3.1
    have h3 : (e.who != who) = true := by rw [bne_iff_ne]; exact h
    rw [if_neg h2, h3, Bool.and_true, Bool.true_and]
theorem restL_grant (H W : List LkE) (who m : Int) (s s' : Spot) : restL (putH H who s m) (dropA W who) s' = (restL H W s').filter fun e => e.who != who := by
  unfold restL dropA
  rw [List.filter_filter, List.filter_filter]
  refine List.filter_congr fun e _ => ?_
  rw [heldL_putH]
  by_cases h : e.who = who
  · simp [h]
  · have h2 : ¬ (e.who = who ∧ s' = s) := fun h3 => h h3.1
    have h3 : (e.who != who) = true := by rw [bne_iff_ne]; exact h
    rw [if_neg h2, h3, Bool.and_true, Bool.true_and]
/-- A number that does not wait: what it holds says nothing of the queues. -/
theorem upL_put {H W : List LkE} {who : Int} (hw : ∀ e ∈ W, e.who ≠ who) (s s' : Spot) (m : Int) : upL (putH H who s m) W s' = upL H W s' := by
  unfold upL
  refine List.filter_congr fun e he => ?_
  rw [heldL_putH, if_neg fun h => hw e he h.1]
theorem restL_put {H W : List LkE} {who : Int} (hw : ∀ e ∈ W, e.who ≠ who) (s s' : Spot) (m : Int) : restL (putH H who s m) W s' = restL H W s' := by
  unfold restL
  refine List.filter_congr fun e he => ?_
  rw [heldL_putH, if_neg fun h => hw e he h.1]
theorem upL_drop {H W : List LkE} {who : Int} (hw : ∀ e ∈ W, e.who ≠ who) (s s' : Spot) : upL (dropS H who s) W s' = upL H W s' := by
  unfold upL
  refine List.filter_congr fun e he => ?_
  rw [heldL_dropS, if_neg fun h => hw e he h.1]
theorem restL_drop {H W : List LkE} {who : Int} (hw : ∀ e ∈ W, e.who ≠ who) (s s' : Spot) : restL (dropS H who s) W s' = restL H W s' := by
  unfold restL
  refine List.filter_congr fun e he => ?_
  rw [heldL_dropS, if_neg fun h => hw e he h.1]
theorem wish_none {W : List LkE} {who : Int} (h : wishL W who = none) : ∀ e ∈ W, e.who ≠ who := fun e he h2 => by
  unfold wishL at h
  rw [List.find?_eq_none] at h
  exact h e he (by rw [beq_iff_eq]; exact h2)
theorem queueL_grant (H W : List LkE) (who m : Int) (s s' : Spot) : queueL (putH H who s m) (dropA W who) s' = (queueL H W s').filter fun e => e.who != who := by
  unfold queueL
  rw [upL_grant, restL_grant, List.filter_append]
/-- At other spots nothing is turned. -/
theorem filter_other {D : LkS} (h : LInv D) {e : LkE} (he : e ∈ D.W) {s' : Spot} (hs : e.s ≠ s') {l : List LkE} (hl : ∀ x ∈ l, x ∈ D.W ∧ x.s = s') : (l.filter fun x => x.who != e.who) = l := by
  rw [List.filter_eq_self]
  intro x hx
  obtain ⟨h1, h2⟩ := hl x hx
  rw [bne_iff_ne]
  intro h3
  have h4 : x = e := by
    have hn := h.wn
    rcases List.mem_iff_getElem.1 h1 with ⟨i, hi, rfl⟩
    rcases List.mem_iff_getElem.1 he with ⟨j, hj, rfl⟩
    rw [List.pairwise_iff_getElem] at hn
    rcases Nat.lt_trichotomy i j with h5 | h5 | h5
    · exact absurd h3 (hn i j hi hj h5)
    · subst h5; rfl
    · exact absurd h3.symm (hn j i hj hi h5)
  exact hs (by rw [← h4]; exact h2)
theorem queueL_of (H W : List LkE) (s : Spot) : ∀ x ∈ queueL H W s, x ∈ W ∧ x.s = s := fun _ hx => queueL_mem hx
theorem queue_shorter {l : List LkE} {e : LkE} {r : List LkE} (h : l = e :: r) : (l.filter fun x => x.who != e.who).length < l.length := by
  subst h
  rw [List.filter_cons]
  have : (e.who != e.who) = false := by simp
  rw [this]
  have := List.length_filter_le (fun x => x.who != e.who) r
  simp only [List.length_cons, Bool.false_eq_true, if_false]
  omega
theorem regrantL_more (s : Spot) : ∀ (t : Nat) (D : LkS), (queueL D.H D.W s).length ≤ t → regrantL (t + 1) D s = regrantL t D s
  | 0, D, h => by
    have h0 : queueL D.H D.W s = [] := List.eq_nil_of_length_eq_zero (by omega)
    unfold regrantL
    rw [h0]
  | t + 1, D, h => by
    rw [regrantL, regrantL]
    cases hq : queueL D.H D.W s with
    | nil => rfl
    | cons e r =>
      dsimp only
      have h1 : (queueL (grantL D e s).H (grantL D e s).W s).length ≤ t := by
        unfold grantL
        dsimp only
        rw [queueL_grant]
        have := queue_shorter hq
        omega
      have h2 := regrantL_more s t (grantL D e s) h1
      rw [h2]
theorem queueL_le (H W : List LkE) (s : Spot) : (queueL H W s).length ≤ W.length := by
  unfold queueL upL restL
  induction W with
  | nil => simp
  | cons e W ih =>
    rw [List.filter_cons, List.filter_cons]
    rw [List.length_append] at ih ⊢
    have e1 : (heldL H e.who s != 0) = !(heldL H e.who s == 0) := rfl
    rw [e1]
    cases e.s == s <;> cases heldL H e.who s == 0 <;> simp only [Bool.false_and, Bool.true_and, Bool.not_false, Bool.not_true, Bool.false_eq_true, if_false, if_true, List.length_cons] <;> omega
theorem regrantL_enough (s : Spot) (D : LkS) : ∀ k, regrantL (D.W.length + k) D s = regrantL D.W.length D s
  | 0 => rfl
  | k + 1 => by rw [← regrantL_enough s D k, ← Nat.add_assoc, regrantL_more s _ D (by have := queueL_le D.H D.W s; omega)]
/-! ### spots in their order -/
def lessS (a b : Spot) : Bool := if a.1 ≠ b.1 then decide (a.1 < b.1) else if a.2.1 ≠ b.2.1 then b.2.1 else decide (a.2.2 < b.2.2)
theorem lessS_irrefl (a : Spot) : lessS a a = false := by simp [lessS]
theorem lessS_trans {a b c : Spot} (h1 : lessS a b = true) (h2 : lessS b c = true) : lessS a c = true := by
  obtain ⟨a1, a2, a3⟩ := a
  obtain ⟨b1, b2, b3⟩ := b
  obtain ⟨c1, c2, c3⟩ := c
  unfold lessS at *
  simp only at *
  by_cases e1 : a1 = b1 <;> by_cases e2 : b1 = c1
  · subst e1; subst e2
    rw [if_neg (by simp)] at h1 h2 ⊢
    cases a2 <;> cases b2 <;> cases c2 <;> simp at h1 h2 ⊢
    all_goals omega
  · subst e1
    rw [if_pos e2] at h2 ⊢
    exact h2
  · subst e2
    rw [if_pos e1] at h1 ⊢
    exact h1
  · rw [if_pos e1] at h1
    rw [if_pos e2] at h2
    simp only [decide_eq_true_eq] at h1 h2
    rw [if_pos (by omega)]
    simp only [decide_eq_true_eq]
    omega
theorem lessS_total {a b : Spot} (h : a ≠ b) (h1 : lessS a b = false) : lessS b a = true := by
  obtain ⟨a1, a2, a3⟩ := a
  obtain ⟨b1, b2, b3⟩ := b
  unfold lessS at *
  simp only at *
  by_cases e1 : a1 = b1
  · subst e1
    rw [if_neg (by simp)] at h1 ⊢
    cases a2 <;> cases b2 <;> simp at h h1 ⊢
    all_goals omega
  · rw [if_pos e1] at h1
    rw [if_pos (fun h => e1 h.symm)]
    simp only [decide_eq_false_iff_not, decide_eq_true_eq] at h1 ⊢
    omega
theorem lessS_asymm {a b : Spot} (h : lessS a b = true) : lessS b a = false := by
  cases h2 : lessS b a with
  | false => rfl
  | true => have := lessS_trans h h2; rw [lessS_irrefl] at this; exact this.symm
def SortedS (l : List Spot) : Prop := l.Pairwise fun a b => lessS a b = true
/-- A strictly sorted list is told by what is in it. -/
theorem sortedS_ext : ∀ {l r : List Spot}, SortedS l → SortedS r → (∀ x, x ∈ l ↔ x ∈ r) → l = r
  | [], [], _, _, _ => rfl
  | [], b :: r, _, _, h => by have := (h b).2 List.mem_cons_self; cases this
  | a :: l, [], _, _, h => by have := (h a).1 List.mem_cons_self; cases this
  | a :: l, b :: r, hl, hr, h => by
    unfold SortedS at hl hr
    rw [List.pairwise_cons] at hl hr
    have hab : a = b := by
      apply Classical.byContradiction
      intro hne
      have h1 : a ∈ r := ((List.mem_cons.1 ((h a).1 List.mem_cons_self)).resolve_left hne)
      have h2 : b ∈ l := ((List.mem_cons.1 ((h b).2 List.mem_cons_self)).resolve_left fun e => hne e.symm)
      have := lessS_trans (hr.1 a h1) (hl.1 b h2)
      rw [lessS_irrefl] at this
      cases this
    subst hab
    have : l = r := sortedS_ext hl.2 hr.2 fun x => by
      constructor
      · intro hx
        rcases List.mem_cons.1 ((h x).1 (List.mem_cons_of_mem _ hx)) with e | e
        · subst e; have := hl.1 x hx; rw [lessS_irrefl] at this; cases this
        · exact e
      · intro hx
        rcases List.mem_cons.1 ((h x).2 (List.mem_cons_of_mem _ hx)) with e | e
        · subst e; have := hr.1 x hx; rw [lessS_irrefl] at this; cases this
        · exact e
    rw [this]
/-- A spot at its place, if it is not there. -/
def addL : List Spot → Spot → List Spot
  | [], s => [s]
  | a :: l, s => if a = s then a :: l else if lessS s a then s :: a :: l else a :: addL l s
theorem addL_mem (l : List Spot) (s x : Spot) : x ∈ addL l s ↔ x ∈ l ∨ x = s := by
  induction l with
  | nil => simp [addL]
  | cons a l ih =>
    unfold addL
    split
    · rename_i h
      subst h
      simp only [List.mem_cons]
      constructor
      · exact .inl
      · rintro (h | h)
        · exact h
        · exact .inl h
    · split
      · simp only [List.mem_cons]
        constructor
        · rintro (h | h | h)
          · exact .inr h
          · exact .inl (.inl h)
          · exact .inl (.inr h)
        · rintro ((h | h) | h)
          · exact .inr (.inl h)
          · exact .inr (.inr h)
          · exact .inl h
      · rw [List.mem_cons, ih, List.mem_cons]
        constructor
        · rintro (h | h | h)
          · exact .inl (.inl h)
          · exact .inl (.inr h)
          · exact .inr h
        · rintro ((h | h) | h)
          · exact .inl h
          · exact .inr (.inl h)
          · exact .inr (.inr h)
theorem addL_sorted {l : List Spot} (h : SortedS l) (s : Spot) : SortedS (addL l s) := by
  induction l with
  | nil => exact List.pairwise_singleton _ _
  | cons a l ih =>
    unfold SortedS at h
    rw [List.pairwise_cons] at h
    unfold addL
    split
    · exact List.pairwise_cons.2 h
    · rename_i hne
      split
      · rename_i hl
        refine List.pairwise_cons.2 ⟨fun x hx => ?_, List.pairwise_cons.2 h⟩
        rcases List.mem_cons.1 hx with rfl | hx
        · exact hl
        · exact lessS_trans hl (h.1 x hx)
      · rename_i hl
        refine List.pairwise_cons.2 ⟨fun x hx => ?_, ih h.2⟩
        rcases (addL_mem l s x).1 hx with hx | rfl
        · exact h.1 x hx
        · exact lessS_total (fun e => hne e.symm) (by simpa using hl)
def spotsL (H : List LkE) (who : Int) : List Spot := (H.filter fun e => e.who == who).foldl (fun l e => addL l e.s) []
theorem foldl_addL (l : List LkE) : ∀ (r : List Spot), SortedS r → SortedS (l.foldl (fun l e => addL l e.s) r) ∧ ∀ x, x ∈ l.foldl (fun l e => addL l e.s) r ↔ x ∈ r ∨ ∃ e ∈ l, e.s = x := by
  induction l with
  | nil => intro r hr; exact ⟨hr, fun x => by simp⟩
  | cons e l ih =>
    intro r hr
    obtain ⟨h1, h2⟩ := ih _ (addL_sorted hr e.s)
    refine ⟨h1, fun x => ?_⟩
    rw [List.foldl_cons, h2, addL_mem]
    constructor
    · rintro ((h | h) | ⟨f, hf, h⟩)
      · exact .inl h
      · exact .inr ⟨e, List.mem_cons_self, h.symm⟩
      · exact .inr ⟨f, List.mem_cons_of_mem _ hf, h⟩
    · rintro (h | ⟨f, hf, h⟩)
      · exact .inl (.inl h)
      · rcases List.mem_cons.1 hf with rfl | hf
        · exact .inl (.inr h.symm)
        · exact .inr ⟨f, hf, h⟩
theorem spotsL_is (H : List LkE) (who : Int) : SortedS (spotsL H who) ∧ ∀ x, x ∈ spotsL H who ↔ ∃ e ∈ H, e.who = who ∧ e.s = x := by
  obtain ⟨h1, h2⟩ := foldl_addL (H.filter fun e => e.who == who) [] List.Pairwise.nil
  refine ⟨h1, fun x => ?_⟩
  unfold spotsL
  rw [h2]
  simp only [List.not_mem_nil, false_or, List.mem_filter, beq_iff_eq]
  constructor
  · rintro ⟨e, ⟨h3, h4⟩, h5⟩; exact ⟨e, h3, h4, h5⟩
  · rintro ⟨e, h3, h4, h5⟩; exact ⟨e, ⟨h3, h4⟩, h5⟩
def leaveAll (D : LkS) (who : Int) : List Spot := match wishL D.W who with
  | none => spotsL D.H who
  | some e => addL (spotsL D.H who) e.s
def leaveL (D : LkS) (who : Int) : List Int × LkS := wokenL { D with H := D.H.filter fun e => e.who != who, W := dropA D.W who } (leaveAll D who)
end Go.Proofs.YtokeciekncincabGreat
namespace Go.Proofs.YtokeciekncincabGreat
open Go Go.RowKit

/-- What lies in blocks of its own. -/
structure Thing where
  At : World → (Nat → Prop) → Prop
  fr : ∀ {w w' : World} {S T : Nat → Prop}, At w S → Fr w w' T → (∀ k, S k → ¬ T k) → At w' S
  lt : ∀ {w : World} {S : Nat → Prop}, At w S → ∀ k, S k → k < w.heap.size
def Lies (w0 W : World) (l : List Thing) : Prop :=
  Fr w0 W Nil ∧ ∃ F : Nat → Nat → Prop, (∀ i x, l[i]? = some x → x.At W (F i) ∧ ∀ k, F i k → w0.heap.size ≤ k) ∧ ∀ i j, i < l.length → j < l.length → i ≠ j → ∀ k, F i k → ¬ F j k
theorem Lies.nil {w0 W : World} (h : Fr w0 W Nil) : Lies w0 W [] := ⟨h, fun _ _ => False, (fun i x hx => by simp at hx), fun i j hi => by simp at hi⟩
theorem Lies.fr {w0 W : World} {l : List Thing} (h : Lies w0 W l) : Fr w0 W Nil := h.1
theorem Lies.fr0 {w0 W W' : World} {l : List Thing} (h : Lies w0 W l) (hf : Fr W W' Nil) : Lies w0 W' l := by
  obtain ⟨h1, F, h2, h3⟩ := h
  exact ⟨h1.trans0 hf, F, fun i x hx => ⟨x.fr (h2 i x hx).1 hf fun _ _ h => h, (h2 i x hx).2⟩, h3⟩
theorem Lies.add {w0 W W' : World} {l : List Thing} (h : Lies w0 W l) (x : Thing) {S : Nat → Prop} (hx : x.At W' S) (hS : ∀ k, S k → W.heap.size ≤ k) (hf : Fr W W' Nil) : Lies w0 W' (l ++ [x]) := by
  have hsz := h.1.size
  obtain ⟨h1, F, h2, h3⟩ := h
  have hlt : ∀ i, i < l.length → ∀ k, F i k → k < W.heap.size := fun i hi k hk => l[i].lt (h2 i _ (List.getElem?_eq_getElem hi)).1 k hk
  refine ⟨h1.trans0 hf, fun i => if i = l.length then S else F i, fun i y hy => ?_, fun i j hi hj hij k => ?_⟩
  · have hi := (List.getElem?_eq_some_iff.1 hy).1
    rw [List.length_append, List.length_singleton] at hi
    dsimp only
    by_cases e : i = l.length
    · subst e
      rw [if_pos rfl]
      rw [List.getElem?_append_right (Nat.le_refl _), Nat.sub_self] at hy
      cases hy
      exact ⟨hx, fun k hk => Nat.le_trans hsz (hS k hk)⟩
    · rw [if_neg e]
      rw [List.getElem?_append_left (by omega)] at hy
      exact ⟨y.fr (h2 i y hy).1 hf fun _ _ h => h, (h2 i y hy).2⟩
  · simp only [List.length_append, List.length_singleton] at hi hj
    dsimp only
    by_cases e : i = l.length
    · rw [if_pos e, if_neg (by omega)]
      intro h1 h2
      have := hS k h1
      have := hlt j (by omega) k h2
      omega
    · rw [if_neg e]
      by_cases e2 : j = l.length
      · rw [if_pos e2]
        intro h1 h2
        have := hS k h2
        have := hlt i (by omega) k h1
        omega
      · rw [if_neg e2]
        exact h3 i j (by omega) (by omega) hij k
theorem Lies.take {w0 W : World} {l : List Thing} (h : Lies w0 W l) (n : Nat) : Lies w0 W (l.take n) := by
  obtain ⟨h1, F, h2, h3⟩ := h
  refine ⟨h1, F, fun i x hx => h2 i x ?_, fun i j hi hj => h3 i j ?_ ?_⟩
  · rw [List.getElem?_take] at hx
    split at hx
    · exact hx
    · cases hx
  · rw [List.length_take] at hi; omega
  · rw [List.length_take] at hj; omega
theorem Lies.get {w0 W : World} {l : List Thing} (h : Lies w0 W l) (i : Nat) (x : Thing) (hi : l[i]? = some x) :
    ∃ S, x.At W S ∧ (∀ k, S k → w0.heap.size ≤ k) ∧ ∀ (W' : World) (S' : Nat → Prop) (x' : Thing), x'.At W' S' → (∀ k, S' k → S k ∨ W.heap.size ≤ k) → Fr W W' S → Lies w0 W' (l.set i x') := by
  have hsz := h.1.size
  obtain ⟨h1, F, h2, h3⟩ := h
  have hlt : ∀ i, i < l.length → ∀ k, F i k → k < W.heap.size := fun i hi k hk => l[i].lt (h2 i _ (List.getElem?_eq_getElem hi)).1 k hk
  have hil := (List.getElem?_eq_some_iff.1 hi).1
  refine ⟨F i, (h2 i x hi).1, (h2 i x hi).2, fun W' S' x' hx hS hf => ⟨h1.trans hf fun k hk hs => by have := (h2 i x hi).2 k hs; omega, fun j => if j = i then S' else F j, fun j y hy => ?_, fun a b ha hb hab k => ?_⟩⟩
  · dsimp only
    by_cases e : j = i
    · subst e
      rw [if_pos rfl]
      rw [List.getElem?_set_self hil] at hy
      cases hy
      exact ⟨hx, fun k hk => (hS k hk).elim ((h2 j x hi).2 k) fun h => Nat.le_trans hsz h⟩
    · rw [if_neg e]
      rw [List.getElem?_set_ne (fun h => e h.symm)] at hy
      have hj := (List.getElem?_eq_some_iff.1 hy).1
      exact ⟨y.fr (h2 j y hy).1 hf fun k hk hk2 => h3 j i hj hil e k hk hk2, (h2 j y hy).2⟩
  · rw [List.length_set] at ha hb
    dsimp only
    by_cases e : a = i
    · rw [if_pos e, if_neg (by omega)]
      intro q1 q2
      rcases hS k q1 with q | q
      · exact h3 i b hil hb (by omega) k q q2
      · have := hlt b hb k q2; omega
    · rw [if_neg e]
      by_cases e2 : b = i
      · rw [if_pos e2]
        intro q1 q2
        rcases hS k q2 with q | q
        · exact h3 a i ha hil e k q1 q
        · have := hlt a ha k q1; omega
      · rw [if_neg e2]
        exact h3 a b ha hb hab k
/-- Two of them, the call having turned both. -/
theorem Lies.get2 {w0 W : World} {l : List Thing} (h : Lies w0 W l) (i j : Nat) (x y : Thing) (hi : l[i]? = some x) (hj : l[j]? = some y) (hij : i ≠ j) :
    ∃ S T, x.At W S ∧ y.At W T ∧ (∀ k, S k → ¬ T k) ∧ ∀ (W' : World) (S' T' : Nat → Prop) (x' y' : Thing), x'.At W' S' → y'.At W' T' → (∀ k, S' k → S k ∨ W.heap.size ≤ k) → (∀ k, T' k → T k ∨ W.heap.size ≤ k) → (∀ k, S' k → ¬ T' k) → Fr W W' (fun k => S k ∨ T k) → Lies w0 W' ((l.set i x').set j y') := by
  have hsz := h.1.size
  obtain ⟨h1, F, h2, h3⟩ := h
  have hlt : ∀ i, i < l.length → ∀ k, F i k → k < W.heap.size := fun i hi k hk => l[i].lt (h2 i _ (List.getElem?_eq_getElem hi)).1 k hk
  have hil := (List.getElem?_eq_some_iff.1 hi).1
  have hjl := (List.getElem?_eq_some_iff.1 hj).1
  refine ⟨F i, F j, (h2 i x hi).1, (h2 j y hj).1, h3 i j hil hjl hij, fun W' S' T' x' y' hx hy hS hT hST hf => ⟨h1.trans hf fun k hk hs => ?_, fun m => if m = j then T' else if m = i then S' else F m, fun m z hz => ?_, fun a b ha hb hab k => ?_⟩⟩
  · rcases hs with hs | hs
    · have := (h2 i x hi).2 k hs; omega
    · have := (h2 j y hj).2 k hs; omega
  · dsimp only
    by_cases e : m = j
    · subst e
      rw [if_pos rfl]
      rw [List.getElem?_set_self (by rw [List.length_set]; exact hjl)] at hz
      cases hz
      exact ⟨hy, fun k hk => (hT k hk).elim ((h2 m y hj).2 k) fun h => Nat.le_trans hsz h⟩
    · rw [if_neg e]
      rw [List.getElem?_set_ne (fun h => e h.symm)] at hz
      by_cases e2 : m = i
      · subst e2
        rw [if_pos rfl]
        rw [List.getElem?_set_self hil] at hz
        cases hz
        exact ⟨hx, fun k hk => (hS k hk).elim ((h2 m x hi).2 k) fun h => Nat.le_trans hsz h⟩
      · rw [if_neg e2]
        rw [List.getElem?_set_ne (fun h => e2 h.symm)] at hz
        have hm := (List.getElem?_eq_some_iff.1 hz).1
        exact ⟨z.fr (h2 m z hz).1 hf fun k hk hk2 => hk2.elim (h3 m i hm hil e2 k hk) (h3 m j hm hjl e k hk), (h2 m z hz).2⟩
  · simp only [List.length_set] at ha hb
    have key : ∀ b, b < l.length → b ≠ i → b ≠ j → (∀ k, S' k → ¬ F b k) ∧ ∀ k, T' k → ¬ F b k := fun b hb hbi hbj =>
      ⟨fun k q1 q2 => by
        rcases hS k q1 with q | q
        · exact h3 i b hil hb (Ne.symm hbi) k q q2
        · have := hlt b hb k q2; omega,
       fun k q1 q2 => by
        rcases hT k q1 with q | q
        · exact h3 j b hjl hb (Ne.symm hbj) k q q2
        · have := hlt b hb k q2; omega⟩
    dsimp only
    by_cases e : a = j
    · rw [if_pos e, if_neg (by omega)]
      by_cases e2 : b = i
      · rw [if_pos e2]; exact fun q1 q2 => hST k q2 q1
      · rw [if_neg e2]; exact (key b hb e2 (by omega)).2 k
    · rw [if_neg e]
      by_cases e2 : a = i
      · rw [if_pos e2]
        by_cases e3 : b = j
        · rw [if_pos e3]; exact hST k
        · rw [if_neg e3, if_neg (by omega)]; exact (key b hb (by omega) e3).1 k
      · rw [if_neg e2]
        by_cases e3 : b = j
        · rw [if_pos e3]; exact fun q1 q2 => (key a ha e2 e).2 k q2 q1
        · rw [if_neg e3]
          by_cases e4 : b = i
          · rw [if_pos e4]; exact fun q1 q2 => (key a ha e2 e).1 k q2 q1
          · rw [if_neg e4]; exact h3 a b ha hb hab k
/-- One takes another's place, which is let go with all behind it. -/
theorem Lies.pull {w0 W : World} {l : List Thing} (h : Lies w0 W l) (i j : Nat) (y : Thing) (hij : i < j) (hj : l[j]? = some y) : Lies w0 W ((l.take j).set i y) := by
  obtain ⟨h1, F, h2, h3⟩ := h
  have hjl := (List.getElem?_eq_some_iff.1 hj).1
  have hlen : (l.take j).length = j := by rw [List.length_take]; omega
  refine ⟨h1, fun m => if m = i then F j else F m, fun m z hz => ?_, fun a b ha hb hab k => ?_⟩
  · dsimp only
    by_cases e : m = i
    · subst e
      rw [if_pos rfl]
      rw [List.getElem?_set_self (by rw [hlen]; exact hij)] at hz
      cases hz
      exact h2 j y hj
    · rw [if_neg e]
      rw [List.getElem?_set_ne (fun h => e h.symm), List.getElem?_take] at hz
      split at hz
      · exact h2 m z hz
      · cases hz
  · rw [List.length_set, hlen] at ha hb
    dsimp only
    by_cases e : a = i
    · rw [if_pos e, if_neg (by omega)]
      exact h3 j b hjl (by omega) (by omega) k
    · rw [if_neg e]
      by_cases e2 : b = i
      · rw [if_pos e2]
        exact h3 a j (by omega) hjl (by omega) k
      · rw [if_neg e2]
        exact h3 a b (by omega) (by omega) hab k
/-- A block of the call's own. -/
def bkT (b : Nat) (e : TypeId) (cs : List Value) : Thing where
  At w S := Bk w b e cs ∧ ∀ k, S k ↔ k = b
  fr h hf hd := ⟨h.1.fr hf (hd b ((h.2 b).2 rfl)), h.2⟩
  lt h k hk := by rw [(h.2 k).1 hk]; exact h.1.lt
theorem Lies.bk {w0 W : World} {l : List Thing} {b : Nat} {e : TypeId} {cs : List Value} (h : Lies w0 W l) (i : Nat) (hi : l[i]? = some (bkT b e cs)) : Bk W b e cs := by
  obtain ⟨S, h1, _⟩ := h.get i _ hi
  exact h1.1
theorem Lies.newBk {w0 W : World} {l : List Thing} (h : Lies w0 W l) (e : TypeId) (cs : Array Value) : Lies w0 (W.alloc (.cells cs e)) (l ++ [bkT W.heap.size e cs.toList]) :=
  h.add (bkT W.heap.size e cs.toList) (S := fun k => k = W.heap.size) ⟨Bk.new W e cs, fun _ => Iff.rfl⟩ (fun k hk => by omega) ((Fr.refl W Nil).alloc _)
end Go.Proofs.YtokeciekncincabGreat
namespace Go.Proofs.YtokeciekncincabGreat
open Go

def KeptN (w0 w : World) : Prop := Fr w0 w Nil
theorem KeptN.start (w : World) : KeptN w w.drew := (Fr.refl w Nil).drew
theorem KeptN.cell {w0 : World} {a : Addr} {v : Value} (h : w0.cell? a = some v) : ∀ w, KeptN w0 w → w.cell? a = some v := fun _ hf => Fr.cell hf h fun h => h

theorem KeptN.fr {w0 w : World} (h : KeptN w0 w) : Fr w0 w Nil := h
theorem KeptN.next {w0 w w' : World} (h : KeptN w0 w) (hf : Fr w w' Nil) : KeptN w0 w' := Fr.trans0 h hf
/-- .. and the blocks of R. -/
def KeptR (R : Nat → Prop) (w0 w : World) : Prop := Fr w0 w R
theorem KeptN.weak {w0 w : World} (R : Nat → Prop) (h : KeptN w0 w) : KeptR R w0 w := Fr.of_nil h
theorem KeptR.cell {R : Nat → Prop} {w0 : World} {a : Addr} {v : Value} (h : w0.cell? a = some v) (hn : ¬ R a.block) : ∀ w, KeptR R w0 w → w.cell? a = some v := fun _ hf => Fr.cell hf h hn
end Go.Proofs.YtokeciekncincabGreat
namespace Go.Proofs.YtokeciekncincabGreat

def BesH (H : List LkE) : Prop := ∀ e ∈ H, ∀ f ∈ H, e.s = f.s → e.who ≠ f.who → besM e.m f.m = true
def Blk (D : LkS) (s : Spot) : Prop := ∀ e l, queueL D.H D.W s = e :: l → canL D.H e.who s e.m = false
theorem canL_true {H : List LkE} {who : Int} {s : Spot} {m : Int} : canL H who s m = true ↔ ∀ e ∈ H, e.s = s → e.who ≠ who → besM m e.m = true := by
  unfold canL
  rw [List.all_eq_true]
  refine forall_congr' fun e => forall_congr' fun _ => ?_
  rw [Bool.not_eq_true', Bool.and_eq_false_iff, Bool.and_eq_false_iff, beq_eq_false_iff_ne, bne_eq_false_iff_eq, Bool.not_eq_false']
  constructor
  · rintro ((h | h) | h) h1 h2
    · exact absurd h1 h
    · exact absurd h h2
    · exact h
  · intro h
    by_cases h1 : e.s = s
    · by_cases h2 : e.who = who
      · exact .inl (.inr h2)
      · exact .inr (h h1 h2)
    · exact .inl (.inl h1)
theorem canL_false {H : List LkE} {who : Int} {s : Spot} {m : Int} (h : canL H who s m = false) : ∃ e ∈ H, e.s = s ∧ e.who ≠ who ∧ besM m e.m = false := by
  apply Classical.byContradiction
  intro hn
  have : canL H who s m = true := canL_true.2 fun e he h1 h2 => by
    cases h3 : besM m e.m with
    | true => rfl
    | false => exact absurd ⟨e, he, h1, h2, h3⟩ hn
  rw [this] at h
  cases h
theorem mem_putH {H : List LkE} {who m : Int} {s : Spot} {e : LkE} (h : e ∈ putH H who s m) : (e ∈ H ∧ ¬ (e.who = who ∧ e.s = s)) ∨ e = ⟨s, who, m⟩ := by
  unfold putH dropS at h
  rcases List.mem_append.1 h with h | h
  · obtain ⟨h1, h2⟩ := List.mem_filter.1 h
    refine .inl ⟨h1, fun h3 => ?_⟩
    rw [Bool.or_eq_true, bne_iff_ne, bne_iff_ne] at h2
    exact h2.elim (fun h => h h3.1) fun h => h h3.2
  · exact .inr (List.mem_singleton.1 h)
theorem in_putH {H : List LkE} {who m : Int} {s : Spot} {e : LkE} (h : e ∈ H) (h2 : ¬ (e.who = who ∧ e.s = s)) : e ∈ putH H who s m := by
  unfold putH dropS
  refine List.mem_append.2 (.inl (List.mem_filter.2 ⟨h, ?_⟩))
  rw [Bool.or_eq_true, bne_iff_ne, bne_iff_ne]
  by_cases h3 : e.who = who
  · exact .inr fun h4 => h2 ⟨h3, h4⟩
  · exact .inl h3
theorem bes_putH {H : List LkE} (h : BesH H) {who m : Int} {s : Spot} (hc : canL H who s m = true) : BesH (putH H who s m) := by
  rw [canL_true] at hc
  intro e he f hf hs hw
  rcases mem_putH he with ⟨he, he2⟩ | rfl <;> rcases mem_putH hf with ⟨hf, hf2⟩ | rfl
  · exact h e he f hf hs hw
  · rw [besM_comm]
    exact hc e he hs hw
  · exact hc f hf hs.symm (Ne.symm hw)
  · exact absurd rfl hw
theorem bes_filter {H : List LkE} (h : BesH H) (p : LkE → Bool) : BesH (H.filter p) := fun e he f hf => h e (List.mem_filter.1 he).1 f (List.mem_filter.1 hf).1
/-- At another spot nothing is turned by a grant. -/
theorem queue_other {D : LkS} (h : LInv D) {e : LkE} (he : e ∈ D.W) {s' : Spot} (hs : s' ≠ e.s) : queueL (grantL D e e.s).H (grantL D e e.s).W s' = queueL D.H D.W s' := by
  unfold grantL
  dsimp only
  rw [queueL_grant]
  exact filter_other h he (fun h => hs h.symm) (queueL_of _ _ _)
theorem can_other {H : List LkE} {who m who' m' : Int} {s s' : Spot} (hs : s' ≠ s) : canL (putH H who s m) who' s' m' = canL H who' s' m' := by
  rw [canL_holds, canL_holds, holdsOf_putH_ne _ _ _ hs]
theorem blk_other {D : LkS} (h : LInv D) {e : LkE} (he : e ∈ D.W) {s' : Spot} (hs : s' ≠ e.s) (hb : Blk D s') : Blk (grantL D e e.s) s' := by
  intro f l hq
  rw [queue_other h he hs] at hq
  have := hb f l hq
  unfold grantL
  dsimp only
  rw [can_other hs]
  exact this
theorem regrant_is (s : Spot) : ∀ (t : Nat) (D : LkS), LInv D → BesH D.H → (queueL D.H D.W s).length ≤ t → BesH (regrantL t D s).2.H ∧ Blk (regrantL t D s).2 s ∧ ∀ s', s' ≠ s → Blk D s' → Blk (regrantL t D s).2 s'
  | 0, D, h, hb, ht => by
    have h0 : queueL D.H D.W s = [] := List.eq_nil_of_length_eq_zero (by omega)
    unfold regrantL
    refine ⟨hb, ?_, fun _ _ h => h⟩
    show Blk D s
    intro e l hq
    rw [h0] at hq
    cases hq
  | t + 1, D, h, hb, ht => by
    unfold regrantL
    split
    · rename_i hq
      refine ⟨hb, ?_, fun _ _ h => h⟩
      show Blk D s
      intro e l hq2
      rw [hq] at hq2
      cases hq2
    · rename_i e l hq
      obtain ⟨he, hes⟩ := queueL_mem (H := D.H) (W := D.W) (s := s) (e := e) (by rw [hq]; exact List.mem_cons_self)
      split
      · rename_i hc
        have h1 : (queueL (grantL D e s).H (grantL D e s).W s).length ≤ t := by
          unfold grantL
          dsimp only
          rw [queueL_grant]
          have := queue_shorter hq
          omega
        obtain ⟨g1, g2, g3⟩ := regrant_is s t (grantL D e s) (grantL_inv h he s) (bes_putH hb hc) h1
        refine ⟨g1, g2, fun s' hs' hb' => g3 s' hs' ?_⟩
        subst hes
        exact blk_other h he hs' hb'
      · rename_i hc
        refine ⟨hb, ?_, fun _ _ h => h⟩
        show Blk D s
        intro f r hq2
        rw [hq] at hq2
        cases hq2
        simpa using hc
theorem woken_is : ∀ (l : List Spot) (D : LkS), LInv D → BesH D.H → BesH (wokenL D l).2.H ∧ ∀ s, (s ∈ l ∨ Blk D s) → Blk (wokenL D l).2 s
  | [], D, _, hb => ⟨hb, fun s hs => hs.elim (fun h => by cases h) id⟩
  | a :: l, D, h, hb => by
    obtain ⟨g1, g2, g3⟩ := regrant_is a D.W.length D h hb (queueL_le _ _ _)
    obtain ⟨k1, k2⟩ := woken_is l (regrantL D.W.length D a).2 (regrantL_inv a _ D h) g1
    refine ⟨k1, fun s hs => k2 s ?_⟩
    by_cases ha : s = a
    · subst ha; exact .inr g2
    · rcases hs with hs | hs
      · rcases List.mem_cons.1 hs with e | e
        · exact absurd e ha
        · exact .inl e
      · exact .inr (g3 s ha hs)
theorem queueL_snoc (H W : List LkE) (who j : Int) (s : Spot) : queueL H (W ++ [⟨s, who, j⟩]) s = if heldL H who s = 0 then upL H W s ++ (restL H W s ++ [⟨s, who, j⟩]) else upL H W s ++ [⟨s, who, j⟩] ++ restL H W s := by
  unfold queueL upL restL
  rw [List.filter_append, List.filter_append]
  by_cases h : heldL H who s = 0
  · rw [if_pos h]
    simp [h]
  · rw [if_neg h]
    simp [h]
theorem queueL_snoc_ne {H W : List LkE} {who j : Int} {s s' : Spot} (hs : s' ≠ s) : queueL H (W ++ [⟨s, who, j⟩]) s' = queueL H W s' := by
  unfold queueL upL restL
  rw [List.filter_append, List.filter_append]
  simp [Ne.symm hs]
/-- What is kept: all that hold a spot go beside each other; nobody who stands first could be granted. -/
structure BInv (D : LkS) : Prop where
  inv : LInv D
  bes : BesH D.H
  blk : ∀ s, Blk D s
theorem ask_b {D : LkS} (h : BInv D) (who : Int) (s : Spot) (m : Int) : BInv (askL D who s m).2 := by
  refine ⟨askL_inv h.inv who s m, ?_, ?_⟩
  all_goals
    unfold askL
    split
    · first | exact h.bes | exact h.blk
    rename_i hmay
    split
    · first | exact h.bes | exact h.blk
    rename_i hw
    have hw2 : ∀ e ∈ D.W, e.who ≠ who := wish_none (by simpa using hw)
    split
    · first | exact h.bes | exact h.blk
    split
    · first | exact h.bes | exact h.blk
    have hmay : mayL s m = true := by simpa using hmay
    unfold mayL at hmay
    simp only [Bool.and_eq_true, decide_eq_true_eq, bne_iff_ne] at hmay
    have hm : ModeOk m := ⟨hmay.1.1.1.1, hmay.1.1.1.2⟩
    have hh := heldL_ok h.inv who s
    have hj := joinM_ok hh hm
    generalize hjm : joinM (heldL D.H who s) m = j at *
  · split
    · rename_i hc
      exact bes_putH h.bes hc.1
    · exact h.bes
  · split
    · rename_i hc
      intro s' e l hq
      dsimp only at hq ⊢
      have hq2 : queueL D.H D.W s' = e :: l := by
        unfold queueL at hq ⊢
        rwa [upL_put hw2, restL_put hw2] at hq
      have hb := h.blk s' e l hq2
      by_cases hs : s' = s
      · subst hs
        obtain ⟨f, hf, f1, f2, f3⟩ := canL_false hb
        by_cases hfw : f.who = who
        · have hfm : heldL D.H who s' = f.m := by rw [← hfw, ← f1]; exact heldL_mem h.inv.hn hf
          have he := (queueL_mem (H := D.H) (W := D.W) (s := s') (e := e) (by rw [hq2]; exact List.mem_cons_self)).1
          cases hcan : canL (putH D.H who s' j) e.who s' e.m with
          | false => rfl
          | true =>
            rw [canL_true] at hcan
            have h1 := hcan ⟨s', who, j⟩ (by unfold putH; exact List.mem_append.2 (.inr (List.mem_singleton.2 rfl))) rfl (by rw [← hfw]; exact f2)
            have h2 := besM_mono (a := f.m) (b := j) (c := e.m) (h.inv.hm f hf).1 hj.1 (h.inv.wm e he).1 (by rw [← hfm]; exact hj.2.1) f3
            rw [h2] at h1
            cases h1
        · cases hcan : canL (putH D.H who s' j) e.who s' e.m with
          | false => rfl
          | true =>
            rw [canL_true] at hcan
            have h1 := hcan f (in_putH hf fun h => hfw h.1) f1 f2
            rw [f3] at h1
            cases h1
      · rw [can_other hs]
        exact hb
    · rename_i hc
      intro s' e l hq
      dsimp only at hq ⊢
      by_cases hs : s' = s
      · subst hs
        rw [queueL_snoc] at hq
        by_cases h0 : heldL D.H who s' = 0
        · rw [if_pos h0] at hq
          cases hq0 : queueL D.H D.W s' with
          | nil =>
            have h1 : upL D.H D.W s' = [] ∧ restL D.H D.W s' = [] := List.append_eq_nil_iff.1 hq0
            rw [h1.1, h1.2] at hq
            cases hq
            cases hcan : canL D.H who s' j with
            | false => rfl
            | true => exact absurd ⟨hcan, .inr hq0⟩ hc
          | cons f r =>
            have h1 : queueL D.H D.W s' ++ [⟨s', who, j⟩] = e :: l := by
              unfold queueL
              rw [List.append_assoc]
              exact hq
            rw [hq0] at h1
            cases h1
            exact h.blk s' _ _ hq0
        · rw [if_neg h0] at hq
          cases hu : upL D.H D.W s' with
          | nil =>
            rw [hu] at hq
            cases hq
            cases hcan : canL D.H who s' j with
            | false => rfl
            | true => exact absurd ⟨hcan, .inl h0⟩ hc
          | cons f r =>
            rw [hu] at hq
            cases hq
            exact h.blk s' _ (r ++ restL D.H D.W s') (by unfold queueL; rw [hu]; rfl)
      · rw [queueL_snoc_ne hs] at hq
        exact h.blk s' e l hq
theorem drop_inv {D : LkS} (h : LInv D) (who : Int) (s : Spot) : LInv { D with H := dropS D.H who s } :=
  ⟨h.hn.filter _, fun e he => h.hm e (List.mem_filter.1 he).1, h.wn, h.wm⟩
theorem dropA_inv {D : LkS} (h : LInv D) (who : Int) : LInv { D with W := dropA D.W who } :=
  ⟨h.hn, h.hm, h.wn.filter _, fun e he => h.wm e (List.mem_filter.1 he).1⟩
/-- At another spot a number's going changes nothing. -/
theorem can_drop_ne {H : List LkE} {who who' m' : Int} {s s' : Spot} (hs : s' ≠ s) : canL (dropS H who s) who' s' m' = canL H who' s' m' := by
  rw [canL_holds, canL_holds, holdsOf_dropS_ne _ _ hs]
theorem free_b {D : LkS} (h : BInv D) (who : Int) (s : Spot) : BInv (freeL D who s).2 := by
  unfold freeL
  split
  · exact h
  · rename_i hw
    have hw2 : ∀ e ∈ D.W, e.who ≠ who := wish_none (by simpa using hw)
    split
    · exact h
    · obtain ⟨g1, g2⟩ := woken_is [s] { D with H := dropS D.H who s } (drop_inv h.inv who s) (bes_filter h.bes _)
      refine ⟨wokenL_inv _ _ (drop_inv h.inv who s), g1, fun s' => g2 s' ?_⟩
      by_cases hs : s' = s
      · exact .inl (by rw [hs]; exact List.mem_singleton.2 rfl)
      · refine .inr fun e l hq => ?_
        dsimp only at hq ⊢
        have hq2 : queueL D.H D.W s' = e :: l := by
          unfold queueL at hq ⊢
          rwa [upL_drop hw2, restL_drop hw2] at hq
        rw [can_drop_ne hs]
        exact h.blk s' e l hq2
theorem queueL_dropA (H W : List LkE) (who : Int) (s : Spot) : queueL H (dropA W who) s = (queueL H W s).filter fun e => e.who != who := by
  unfold queueL upL restL dropA
  rw [List.filter_append, List.filter_filter, List.filter_filter, List.filter_filter, List.filter_filter]
  congr 1 <;> (refine List.filter_congr fun e _ => ?_; cases e.who != who <;> simp)
theorem wish_some {W : List LkE} {who : Int} {e : LkE} (h : wishL W who = some e) : e ∈ W ∧ e.who = who := by
  unfold wishL at h
  exact ⟨List.mem_of_find?_eq_some h, by have := List.find?_some h; rwa [beq_iff_eq] at this⟩
theorem cancel_b {D : LkS} (h : BInv D) (who : Int) : BInv (cancelL D who).2 := by
  unfold cancelL
  split
  · exact h
  · rename_i e he
    obtain ⟨he1, rfl⟩ := wish_some he
    obtain ⟨g1, g2⟩ := woken_is [e.s] { D with W := dropA D.W e.who } (dropA_inv h.inv e.who) h.bes
    refine ⟨wokenL_inv _ _ (dropA_inv h.inv e.who), g1, fun s' => g2 s' ?_⟩
    by_cases hs : s' = e.s
    · exact .inl (by rw [hs]; exact List.mem_singleton.2 rfl)
    · refine .inr fun f l hq => ?_
      dsimp only at hq ⊢
      rw [queueL_dropA, filter_other h.inv he1 (fun h => hs h.symm) (queueL_of _ _ _)] at hq
      exact h.blk s' f l hq
theorem leave_inv {D : LkS} (h : LInv D) (who : Int) : LInv { D with H := D.H.filter fun e => e.who != who, W := dropA D.W who } :=
  ⟨h.hn.filter _, fun e he => h.hm e (List.mem_filter.1 he).1, h.wn.filter _, fun e he => h.wm e (List.mem_filter.1 he).1⟩
theorem heldL_leave (H : List LkE) {who w' : Int} (hw : w' ≠ who) (s : Spot) : heldL (H.filter fun e => e.who != who) w' s = heldL H w' s := by
  unfold heldL
  have : (H.filter fun e => e.who != who).find? (fun e => e.who == w' && e.s == s) = H.find? fun e => e.who == w' && e.s == s := by
    induction H with
    | nil => rfl
    | cons e H ih =>
      rw [List.filter_cons, List.find?_cons]
      by_cases h1 : e.who = w'
      · have h2 : (e.who != who) = true := by rw [bne_iff_ne, h1]; exact hw
        rw [if_pos h2, List.find?_cons, ih]
      · have h2 : (e.who == w' && e.s == s) = false := by rw [Bool.and_eq_false_iff, beq_eq_false_iff_ne]; exact .inl h1
        rw [h2]
        split
        · rw [List.find?_cons, h2]; exact ih
        · exact ih
  rw [this]
theorem queueL_leave (H W : List LkE) (who : Int) (s : Spot) : queueL (H.filter fun e => e.who != who) (dropA W who) s = (queueL H W s).filter fun e => e.who != who := by
  rw [← queueL_dropA]
  unfold queueL upL restL dropA
  rw [List.filter_filter, List.filter_filter, List.filter_filter, List.filter_filter]
  congr 1
  all_goals
    refine List.filter_congr fun e _ => ?_
    by_cases h : e.who = who
    · simp [h]
    · rw [heldL_leave H h]
theorem leave_b {D : LkS} (h : BInv D) (who : Int) : BInv (leaveL D who).2 := by
  unfold leaveL
  obtain ⟨g1, g2⟩ := woken_is (leaveAll D who) { D with H := D.H.filter fun e => e.who != who, W := dropA D.W who } (leave_inv h.inv who) (bes_filter h.bes _)
  refine ⟨wokenL_inv _ _ (leave_inv h.inv who), g1, fun s' => g2 s' ?_⟩
  by_cases hs : s' ∈ leaveAll D who
  · exact .inl hs
  · refine .inr fun f l hq => ?_
    dsimp only at hq ⊢
    have hH : ∀ e ∈ D.H, e.who = who → e.s ≠ s' := fun e he h1 h2 => hs (by
      unfold leaveAll
      split
      · exact ((spotsL_is D.H who).2 s').2 ⟨e, he, h1, h2⟩
      · exact (addL_mem _ _ _).2 (.inl (((spotsL_is D.H who).2 s').2 ⟨e, he, h1, h2⟩)))
    have hW : ∀ e ∈ D.W, e.who = who → e.s ≠ s' := fun e he h1 h2 => hs (by
      unfold leaveAll
      cases hw : wishL D.W who with
      | none => exact absurd h1 (wish_none hw e he)
      | some f =>
        obtain ⟨hf, hf2⟩ := wish_some hw
        dsimp only
        refine (addL_mem _ _ _).2 (.inr ?_)
        have : e = f := by
          rcases List.mem_iff_getElem.1 he with ⟨i, hi, rfl⟩
          rcases List.mem_iff_getElem.1 hf with ⟨j, hj, rfl⟩
          have hn := h.inv.wn
          rw [List.pairwise_iff_getElem] at hn
          rcases Nat.lt_trichotomy i j with h5 | h5 | h5
          · exact absurd (h1.trans hf2.symm) (hn i j hi hj h5)
          · subst h5; rfl
          · exact absurd (hf2.trans h1.symm) (hn j i hj hi h5)
        rw [← this]
        exact h2.symm)
    rw [queueL_leave] at hq
    have hq2 : (queueL D.H D.W s').filter (fun e => e.who != who) = queueL D.H D.W s' := by
      rw [List.filter_eq_self]
      intro e he
      obtain ⟨h1, h2⟩ := queueL_mem he
      rw [bne_iff_ne]
      exact fun h3 => hW e h1 h3 h2
    rw [hq2] at hq
    have hb := h.blk s' f l hq
    obtain ⟨e, he, h1, h2, h3⟩ := canL_false hb
    cases hcan : canL (D.H.filter fun e => e.who != who) f.who s' f.m with
    | false => rfl
    | true =>
      rw [canL_true] at hcan
      have := hcan e (List.mem_filter.2 ⟨he, by rw [bne_iff_ne]; exact fun h4 => hH e he h4 h1⟩) h1 h2
      rw [h3] at this
      cases this
theorem nil_b (most : Int) : BInv ⟨most, [], []⟩ :=
  ⟨⟨.nil, (fun e he => by cases he), .nil, (fun e he => by cases he)⟩, (fun e he => by cases he), fun s e l hq => by cases hq⟩
end Go.Proofs.YtokeciekncincabGreat
namespace Go.Proofs.YtokeciekncincabGreat

theorem held_zero {H : List LkE} (hm : ∀ e ∈ H, ModeOk e.m ∧ e.m ≠ 0) {who : Int} {s : Spot} : heldL H who s = 0 ↔ ∀ e ∈ H, ¬ (e.who = who ∧ e.s = s) := by
  constructor
  · intro h e he h2
    unfold heldL at h
    cases hf : H.find? (fun e => e.who == who && e.s == s) with
    | none =>
      have := List.find?_eq_none.1 hf e he
      rw [Bool.and_eq_true, beq_iff_eq, beq_iff_eq] at this
      exact this h2
    | some f =>
      rw [hf] at h
      exact (hm f (List.mem_of_find?_eq_some hf)).2 h
  · intro h
    unfold heldL
    cases hf : H.find? (fun e => e.who == who && e.s == s) with
    | none => rfl
    | some f =>
      have h2 := List.find?_some hf
      rw [Bool.and_eq_true, beq_iff_eq, beq_iff_eq] at h2
      exact absurd h2 (h f (List.mem_of_find?_eq_some hf))
theorem dropS_len {H : List LkE} (hn : H.Pairwise fun a b => ¬ (a.who = b.who ∧ a.s = b.s)) (hm : ∀ e ∈ H, ModeOk e.m ∧ e.m ≠ 0) (who : Int) (s : Spot) : (dropS H who s).length + (if heldL H who s = 0 then 0 else 1) = H.length := by
  induction H with
  | nil => rfl
  | cons e H ih =>
    rw [List.pairwise_cons] at hn
    have hm2 : ∀ e ∈ H, ModeOk e.m ∧ e.m ≠ 0 := fun x hx => hm x (List.mem_cons_of_mem _ hx)
    have ih := ih hn.2 hm2
    by_cases h : e.who = who ∧ e.s = s
    · have h1 : heldL H who s = 0 := (held_zero hm2).2 fun x hx hxx => hn.1 x hx ⟨h.1.trans hxx.1.symm, h.2.trans hxx.2.symm⟩
      have h2 : heldL (e :: H) who s ≠ 0 := fun h3 => (held_zero hm).1 h3 e List.mem_cons_self h
      rw [if_pos h1] at ih
      rw [if_neg h2]
      have h3 : (e.who != who || e.s != s) = false := by rw [h.1, h.2]; simp
      unfold dropS at ih ⊢
      rw [List.filter_cons, if_neg (by rw [h3]; exact Bool.false_ne_true), List.length_cons]
      omega
    · have h1 : heldL (e :: H) who s = heldL H who s := by
        unfold heldL
        have : (e.who == who && e.s == s) = false := by
          rw [Bool.and_eq_false_iff, beq_eq_false_iff_ne, beq_eq_false_iff_ne]
          by_cases h4 : e.who = who
          · exact .inr fun h5 => h ⟨h4, h5⟩
          · exact .inl h4
        rw [List.find?_cons, this]
      have h3 : (e.who != who || e.s != s) = true := by
        rw [Bool.or_eq_true, bne_iff_ne, bne_iff_ne]
        by_cases h4 : e.who = who
        · exact .inr fun h5 => h ⟨h4, h5⟩
        · exact .inl h4
      rw [h1]
      unfold dropS at ih ⊢
      rw [List.filter_cons, if_pos h3, List.length_cons, List.length_cons]
      omega
theorem putH_len {H : List LkE} (hn : H.Pairwise fun a b => ¬ (a.who = b.who ∧ a.s = b.s)) (hm : ∀ e ∈ H, ModeOk e.m ∧ e.m ≠ 0) (who m : Int) (s : Spot) : (putH H who s m).length = H.length + (if heldL H who s = 0 then 1 else 0) := by
  have := dropS_len hn hm who s
  unfold putH
  rw [List.length_append, List.length_singleton]
  split at this <;> rename_i h <;> simp only [h, if_true, if_false] <;> omega
def waitN (H W : List LkE) : Nat := (W.filter fun e => heldL H e.who e.s == 0).length
theorem usedL_is (D : LkS) : usedL D = D.H.length + waitN D.H D.W := rfl
theorem waitN_put {H W : List LkE} {who : Int} (hw : ∀ e ∈ W, e.who ≠ who) (s : Spot) (m : Int) : waitN (putH H who s m) W = waitN H W := by
  unfold waitN
  rw [List.filter_congr fun e he => by rw [heldL_putH, if_neg fun h => hw e he h.1]]
theorem waitN_drop {H W : List LkE} {who : Int} (hw : ∀ e ∈ W, e.who ≠ who) (s : Spot) : waitN (dropS H who s) W = waitN H W := by
  unfold waitN
  rw [List.filter_congr fun e he => by rw [heldL_dropS, if_neg fun h => hw e he h.1]]
theorem waitN_dropA {H W : List LkE} (hn : W.Pairwise fun a b => a.who ≠ b.who) {e : LkE} (he : e ∈ W) : waitN H (dropA W e.who) + (if heldL H e.who e.s = 0 then 1 else 0) = waitN H W := by
  induction W with
  | nil => cases he
  | cons x W ih =>
    rw [List.pairwise_cons] at hn
    unfold waitN dropA at ih ⊢
    rcases List.mem_cons.1 he with rfl | he
    · have h1 : (W.filter fun y => y.who != e.who) = W := by
        rw [List.filter_eq_self]
        intro y hy
        rw [bne_iff_ne]
        exact fun h => hn.1 y hy h.symm
      rw [List.filter_cons, if_neg (by simp), h1, List.filter_cons]
      by_cases h : heldL H e.who e.s = 0
      · rw [if_pos h, if_pos (by rw [beq_iff_eq]; exact h), List.length_cons]
      · rw [if_neg h, if_neg (by rw [beq_iff_eq]; exact h), Nat.add_zero]
    · have ih := ih hn.2 he
      have h1 : (x.who != e.who) = true := by rw [bne_iff_ne]; exact hn.1 e he
      rw [List.filter_cons, if_pos h1, List.filter_cons, List.filter_cons]
      split
      · rw [List.length_cons, List.length_cons]; omega
      · exact ih
theorem grant_used {D : LkS} (h : LInv D) {e : LkE} (he : e ∈ D.W) : usedL (grantL D e e.s) = usedL D := by
  rw [usedL_is, usedL_is]
  unfold grantL
  dsimp only
  have h1 := putH_len h.hn h.hm e.who e.m e.s
  have h2 := waitN_dropA (H := D.H) h.wn he
  have h3 : waitN (putH D.H e.who e.s e.m) (dropA D.W e.who) = waitN D.H (dropA D.W e.who) := waitN_put (fun x hx => by
    have := (List.mem_filter.1 hx).2
    rwa [bne_iff_ne] at this) e.s e.m
  omega
theorem regrant_used (s : Spot) : ∀ (t : Nat) (D : LkS), LInv D → usedL (regrantL t D s).2 = usedL D ∧ (regrantL t D s).2.most = D.most
  | 0, _, _ => ⟨rfl, rfl⟩
  | t + 1, D, h => by
    unfold regrantL
    split
    · exact ⟨rfl, rfl⟩
    · rename_i e l hq
      obtain ⟨he, rfl⟩ := queueL_mem (H := D.H) (W := D.W) (e := e) (s := s) (by rw [hq]; exact List.mem_cons_self)
      split
      · obtain ⟨h1, h2⟩ := regrant_used e.s t (grantL D e e.s) (grantL_inv h he e.s)
        exact ⟨h1.trans (grant_used h he), h2⟩
      · exact ⟨rfl, rfl⟩
theorem woken_used : ∀ (l : List Spot) (D : LkS), LInv D → usedL (wokenL D l).2 = usedL D ∧ (wokenL D l).2.most = D.most
  | [], _, _ => ⟨rfl, rfl⟩
  | a :: l, D, h => by
    obtain ⟨h1, h2⟩ := regrant_used a D.W.length D h
    obtain ⟨h3, h4⟩ := woken_used l _ (regrantL_inv a _ D h)
    exact ⟨h3.trans h1, h4.trans h2⟩
theorem ask_used {D : LkS} (h : LInv D) (hu : (usedL D : Int) ≤ D.most) (who : Int) (s : Spot) (m : Int) : (usedL (askL D who s m).2 : Int) ≤ D.most ∧ (askL D who s m).2.most = D.most := by
  unfold askL
  split
  · exact ⟨hu, rfl⟩
  split
  · exact ⟨hu, rfl⟩
  rename_i hw
  have hw2 : ∀ e ∈ D.W, e.who ≠ who := wish_none (by simpa using hw)
  split
  · exact ⟨hu, rfl⟩
  split
  · exact ⟨hu, rfl⟩
  rename_i hl
  rw [usedL_is] at hu hl
  split
  · refine ⟨?_, rfl⟩
    rw [usedL_is]
    dsimp only
    have h1 := putH_len h.hn h.hm who (joinM (heldL D.H who s) m) s
    rw [waitN_put hw2, h1]
    by_cases h0 : heldL D.H who s = 0
    · have : ¬ D.most ≤ ((D.H.length + waitN D.H D.W : Nat) : Int) := fun h9 => hl ⟨h0, h9⟩
      rw [if_pos h0]; omega
    · rw [if_neg h0]; omega
  · refine ⟨?_, rfl⟩
    rw [usedL_is]
    dsimp only
    have h1 : waitN D.H (D.W ++ [⟨s, who, joinM (heldL D.H who s) m⟩]) = waitN D.H D.W + (if heldL D.H who s = 0 then 1 else 0) := by
      unfold waitN
      rw [List.filter_append, List.length_append]
      by_cases h0 : heldL D.H who s = 0 <;> simp [h0]
    rw [h1]
    by_cases h0 : heldL D.H who s = 0
    · have : ¬ D.most ≤ ((D.H.length + waitN D.H D.W : Nat) : Int) := fun h9 => hl ⟨h0, h9⟩
      rw [if_pos h0]; omega
    · rw [if_neg h0]; omega
theorem free_used {D : LkS} (h : LInv D) (who : Int) (s : Spot) : usedL (freeL D who s).2 ≤ usedL D ∧ (freeL D who s).2.most = D.most := by
  unfold freeL
  split
  · exact ⟨Nat.le_refl _, rfl⟩
  rename_i hw
  have hw2 : ∀ e ∈ D.W, e.who ≠ who := wish_none (by simpa using hw)
  split
  · exact ⟨Nat.le_refl _, rfl⟩
  obtain ⟨h1, h2⟩ := woken_used [s] { D with H := dropS D.H who s } (drop_inv h who s)
  refine ⟨?_, h2⟩
  rw [show usedL (wokenL { D with H := dropS D.H who s } [s]).2 = _ from h1, usedL_is, usedL_is]
  dsimp only
  rw [waitN_drop hw2]
  have := List.length_filter_le (fun e : LkE => e.who != who || e.s != s) D.H
  unfold dropS
  omega
theorem cancel_used {D : LkS} (h : LInv D) (who : Int) : usedL (cancelL D who).2 ≤ usedL D ∧ (cancelL D who).2.most = D.most := by
  unfold cancelL
  split
  · exact ⟨Nat.le_refl _, rfl⟩
  · rename_i e he
    obtain ⟨he1, rfl⟩ := wish_some he
    obtain ⟨h1, h2⟩ := woken_used [e.s] { D with W := dropA D.W e.who } (dropA_inv h e.who)
    refine ⟨?_, h2⟩
    rw [show usedL (wokenL { D with W := dropA D.W e.who } [e.s]).2 = _ from h1, usedL_is, usedL_is]
    dsimp only
    have := waitN_dropA (H := D.H) h.wn he1
    omega
theorem leave_used {D : LkS} (h : LInv D) (who : Int) : usedL (leaveL D who).2 ≤ usedL D ∧ (leaveL D who).2.most = D.most := by
  unfold leaveL
  obtain ⟨h1, h2⟩ := woken_used (leaveAll D who) { D with H := D.H.filter fun e => e.who != who, W := dropA D.W who } (leave_inv h who)
  refine ⟨?_, h2⟩
  rw [show usedL (wokenL { D with H := D.H.filter fun e => e.who != who, W := dropA D.W who } (leaveAll D who)).2 = _ from h1, usedL_is, usedL_is]
  dsimp only
  have h3 := List.length_filter_le (fun e : LkE => e.who != who) D.H
  have h4 : waitN (D.H.filter fun e => e.who != who) (dropA D.W who) ≤ waitN D.H D.W := by
    unfold waitN dropA
    have : ((D.W.filter fun e => e.who != who).filter fun e => heldL (D.H.filter fun e => e.who != who) e.who e.s == 0) = (D.W.filter fun e => heldL D.H e.who e.s == 0).filter fun e => e.who != who := by
      rw [List.filter_filter, List.filter_filter]
      refine List.filter_congr fun e _ => ?_
      by_cases h : e.who = who
      · simp [h]
      · rw [heldL_leave D.H h, Bool.and_comm]
    rw [this]
    exact List.length_filter_le _ _
  omega
/-- What is granted was asked. -/
theorem ask_tells {D : LkS} (h : LInv D) (who : Int) (s : Spot) (m : Int) (h1 : (askL D who s m).1.2 = 0) :
    (askL D who s m).1.1 = covM (heldL (askL D who s m).2.H who s) m ∧ ((askL D who s m).1.1 = true → heldL (askL D who s m).2.H who s = joinM (heldL D.H who s) m) := by
  revert h1
  unfold askL
  split
  · intro h1; cases h1
  rename_i hmay
  split
  · intro h1; cases h1
  rename_i hw
  have hmay : mayL s m = true := by simpa using hmay
  unfold mayL at hmay
  simp only [Bool.and_eq_true, decide_eq_true_eq, bne_iff_ne] at hmay
  have hm : ModeOk m := ⟨hmay.1.1.1.1, hmay.1.1.1.2⟩
  have hh := heldL_ok h who s
  have hj := joinM_ok hh hm
  split
  · rename_i hc
    intro _
    refine ⟨hc.symm, fun _ => ?_⟩
    dsimp only
    revert hc
    rcases mode_cases hh with e | e | e | e | e | e <;> rw [e] <;> rcases mode_cases hm with rfl | rfl | rfl | rfl | rfl | rfl <;> decide
  · rename_i hc
    split
    · intro h1; cases h1
    · split
      · intro _
        dsimp only
        rw [heldL_putH, if_pos ⟨rfl, rfl⟩]
        exact ⟨hj.2.2.symm, fun _ => rfl⟩
      · intro _
        dsimp only
        exact ⟨by simpa using Eq.symm (Bool.eq_false_iff.2 hc), fun h => by cases h⟩
end Go.Proofs.YtokeciekncincabGreat
namespace Go.Proofs.YtokeciekncincabGreat

/-- All entries are such as p says (of who, and of the spot). -/
def AllE (p : Int → Spot → Prop) (D : LkS) : Prop := (∀ e ∈ D.H, p e.who e.s) ∧ ∀ e ∈ D.W, p e.who e.s
theorem all_grant {p : Int → Spot → Prop} {D : LkS} (h : AllE p D) {e : LkE} (he : e ∈ D.W) : AllE p (grantL D e e.s) := by
  refine ⟨fun f hf => ?_, fun f hf => h.2 f (List.mem_filter.1 hf).1⟩
  rcases mem_putH hf with ⟨hf, _⟩ | rfl
  · exact h.1 f hf
  · exact h.2 e he
theorem all_regrant {p : Int → Spot → Prop} (s : Spot) : ∀ (t : Nat) (D : LkS), AllE p D → AllE p (regrantL t D s).2
  | 0, _, h => h
  | t + 1, D, h => by
    unfold regrantL
    split
    · exact h
    · rename_i e l hq
      obtain ⟨he, rfl⟩ := queueL_mem (H := D.H) (W := D.W) (e := e) (s := s) (by rw [hq]; exact List.mem_cons_self)
      split
      · exact all_regrant e.s t _ (all_grant h he)
      · exact h
theorem all_woken {p : Int → Spot → Prop} : ∀ (l : List Spot) (D : LkS), AllE p D → AllE p (wokenL D l).2
  | [], _, h => h
  | a :: l, D, h => all_woken l _ (all_regrant a _ D h)
theorem all_ask {p : Int → Spot → Prop} {D : LkS} (h : AllE p D) (who : Int) (s : Spot) (m : Int) (hp : mayL s m = true → p who s) : AllE p (askL D who s m).2 := by
  unfold askL
  split
  · exact h
  rename_i hmay
  have hp := hp (by simpa using hmay)
  split
  · exact h
  split
  · exact h
  split
  · exact h
  split
  · refine ⟨fun f hf => ?_, h.2⟩
    rcases mem_putH hf with ⟨hf, _⟩ | rfl
    · exact h.1 f hf
    · exact hp
  · refine ⟨h.1, fun f hf => ?_⟩
    rcases List.mem_append.1 hf with hf | hf
    · exact h.2 f hf
    · rw [List.mem_singleton] at hf
      subst hf
      exact hp
theorem all_free {p : Int → Spot → Prop} {D : LkS} (h : AllE p D) (who : Int) (s : Spot) : AllE p (freeL D who s).2 := by
  unfold freeL
  split
  · exact h
  split
  · exact h
  exact all_woken _ _ ⟨fun e he => h.1 e (List.mem_filter.1 he).1, h.2⟩
theorem all_cancel {p : Int → Spot → Prop} {D : LkS} (h : AllE p D) (who : Int) : AllE p (cancelL D who).2 := by
  unfold cancelL
  split
  · exact h
  exact all_woken _ _ ⟨h.1, fun e he => h.2 e (List.mem_filter.1 he).1⟩
theorem all_leave {p : Int → Spot → Prop} {D : LkS} (h : AllE p D) (who : Int) : AllE (fun w s => p w s ∧ w ≠ who) (leaveL D who).2 := by
  unfold leaveL
  refine all_woken _ _ ⟨fun e he => ?_, fun e he => ?_⟩
  all_goals
    have h2 := (List.mem_filter.1 he).2
    rw [bne_iff_ne] at h2
    first | exact ⟨h.1 e (List.mem_filter.1 he).1, h2⟩ | exact ⟨h.2 e (List.mem_filter.1 he).1, h2⟩
theorem all_none {D : LkS} (h : AllE (fun _ _ => False) D) : D.H = [] ∧ D.W = [] :=
  ⟨List.eq_nil_iff_forall_not_mem.2 fun e he => h.1 e he, List.eq_nil_iff_forall_not_mem.2 fun e he => h.2 e he⟩
/-- Who asks again for what it holds has it. -/
theorem ask_again {D : LkS} (hs : AllE (fun _ s => 0 ≤ s.1 ∧ (s.2.1 = true ∨ s.2.2 = 0)) D) {who : Int} {s : Spot} {m : Int} (hw : wishL D.W who = none) (h0 : heldL D.H who s ≠ 0) (hm : 1 ≤ m ∧ m ≤ 5) (hc : covM (heldL D.H who s) m = true) : askL D who s m = ((true, 0), D) := by
  obtain ⟨e, he, rfl, rfl, _⟩ := heldL_in h0
  have h1 := hs.1 e he
  have hmay : mayL e.s m = true := by
    unfold mayL
    simp only [Bool.and_eq_true, decide_eq_true_eq, bne_iff_ne, Bool.or_eq_true, beq_iff_eq]
    exact ⟨⟨⟨⟨by omega, hm.2⟩, by omega⟩, h1.1⟩, h1.2⟩
  unfold askL
  rw [if_neg (by rw [hmay]; exact Bool.noConfusion), if_neg (by rw [hw]; exact Bool.noConfusion), if_pos hc]
/-- With nobody there anybody is granted anything. -/
theorem ask_alone {most : Int} (hm : 1 ≤ most) {who : Int} {s : Spot} {m : Int} (hmay : mayL s m = true) : askL ⟨most, [], []⟩ who s m = ((true, 0), ⟨most, [⟨s, who, joinM 0 m⟩], []⟩) := by
  have hmay2 := hmay
  unfold mayL at hmay2
  simp only [Bool.and_eq_true, decide_eq_true_eq, bne_iff_ne] at hmay2
  have hc : covM 0 m = false := by
    have : ModeOk m := ⟨hmay2.1.1.1.1, hmay2.1.1.1.2⟩
    have h0 := hmay2.1.1.2
    rcases mode_cases this with rfl | rfl | rfl | rfl | rfl | rfl <;> first | exact absurd rfl h0 | decide
  unfold askL
  rw [if_neg (by rw [hmay]; exact Bool.noConfusion), if_neg (by exact Bool.noConfusion), if_neg (by show ¬ covM 0 m = true; rw [hc]; exact Bool.noConfusion), if_neg (by rintro ⟨_, h⟩; have h : most ≤ 0 := h; omega), if_pos ⟨rfl, .inr rfl⟩]
  rfl
end Go.Proofs.YtokeciekncincabGreat
namespace Go.Proofs.YtokeciekncincabGreat
open Go Go.RowKit

def packS : List Spot → List Spot
  | [] => []
  | [a] => [a]
  | a :: b :: l => if a = b then packS (b :: l) else a :: packS (b :: l)
theorem packS_mem : ∀ (l : List Spot) (x : Spot), x ∈ packS l ↔ x ∈ l
  | [], x => Iff.rfl
  | [a], x => Iff.rfl
  | a :: b :: l, x => by
    have ih := packS_mem (b :: l) x
    unfold packS
    by_cases h : a = b
    · rw [if_pos h, ih]
      subst h
      simp
    · rw [if_neg h, List.mem_cons, ih, List.mem_cons (a := x) (b := a)]
theorem packS_sorted : ∀ {l : List Spot}, (l.Pairwise fun a b => a = b ∨ lessS a b = true) → SortedS (packS l)
  | [], _ => List.Pairwise.nil
  | [a], _ => List.pairwise_singleton _ _
  | a :: b :: l, h => by
    rw [List.pairwise_cons] at h
    have ih := packS_sorted h.2
    unfold packS
    by_cases hab : a = b
    · rw [if_pos hab]; exact ih
    · rw [if_neg hab]
      have h1 : lessS a b = true := (h.1 b List.mem_cons_self).resolve_left hab
      refine List.pairwise_cons.2 ⟨fun x hx => ?_, ih⟩
      rw [packS_mem] at hx
      rcases List.mem_cons.1 hx with rfl | hx2
      · exact h1
      · rcases (List.pairwise_cons.1 h.2).1 x hx2 with rfl | h2
        · exact h1
        · exact lessS_trans h1 h2
/-- What is packed is told by what is in it. -/
theorem packS_is {l r : List Spot} (h : l.Pairwise fun a b => a = b ∨ lessS a b = true) (hr : SortedS r) (hm : ∀ x, x ∈ l ↔ x ∈ r) : packS l = r :=
  sortedS_ext (packS_sorted h) hr fun x => by rw [packS_mem, hm]
end Go.Proofs.YtokeciekncincabGreat
namespace Go.Proofs.YtokeciekncincabGreat
open Go Go.RowKit

theorem packS_snoc : ∀ (xs : List Spot) (b a : Spot), packS (xs ++ [b, a]) = packS (xs ++ [b]) ++ if b = a then [] else [a]
  | [], b, a => by
    show packS [b, a] = [b] ++ _
    unfold packS
    by_cases h : b = a
    · subst h; simp [packS]
    · simp [packS, h]
  | [x], b, a => by
    have ih := packS_snoc [] b a
    show packS (x :: b :: [a]) = packS (x :: b :: []) ++ _
    unfold packS
    by_cases h : x = b
    · rw [if_pos h, if_pos h]; exact ih
    · rw [if_neg h, if_neg h, List.cons_append]; exact congrArg _ ih
  | x :: y :: xs, b, a => by
    have ih := packS_snoc (y :: xs) b a
    show packS (x :: y :: (xs ++ [b, a])) = packS (x :: y :: (xs ++ [b])) ++ _
    unfold packS
    by_cases h : x = y
    · rw [if_pos h, if_pos h]; exact ih
    · rw [if_neg h, if_neg h, List.cons_append]; exact congrArg _ ih
theorem packS_take {l : List Spot} {k : Nat} {a b : Spot} (hk : 1 ≤ k) (ha : l[k]? = some a) (hb : l[k - 1]? = some b) : packS (l.take (k + 1)) = packS (l.take k) ++ if b = a then [] else [a] := by
  obtain ⟨k, rfl⟩ : ∃ k', k = k' + 1 := ⟨k - 1, by omega⟩
  rw [Nat.add_sub_cancel] at hb
  have h1 : l.take (k + 1 + 1) = l.take k ++ [b, a] := by
    rw [List.take_add_one, List.take_add_one, ha, hb]; simp
  have h2 : l.take (k + 1) = l.take k ++ [b] := by rw [List.take_add_one, hb]; rfl
  rw [h1, h2, packS_snoc]
theorem packS_one {l : List Spot} (h : l.length ≤ 1) : packS l = l := by
  match l, h with
  | [], _ => rfl
  | [a], _ => rfl
theorem packS_len : ∀ (l : List Spot), (packS l).length ≤ l.length
  | [] => Nat.le_refl _
  | [a] => Nat.le_refl _
  | a :: b :: l => by
    have ih := packS_len (b :: l)
    unfold packS
    rw [List.length_cons (a := a)]
    split
    · omega
    · rw [List.length_cons]; omega
structure CmpAt (l ps : List Spot) (k j : Nat) : Prop where
  len : ps.length = l.length
  lt : k < j
  le : j ≤ l.length
  got : ps.take k = packS (l.take j)
  left : ps.drop (j - 1) = l.drop (j - 1)
theorem CmpAt.start {l : List Spot} {k : Nat} {a : Spot} (hk : 1 ≤ k) (ha : l[k]? = some a) (hb : l[k - 1]? = some a) (h : packS (l.take k) = l.take k) : CmpAt l l k (k + 1) := by
  have hl := (List.getElem?_eq_some_iff.1 ha).1
  refine ⟨rfl, by omega, by omega, ?_, rfl⟩
  rw [packS_take hk ha hb, if_pos rfl, List.append_nil, h]
theorem CmpAt.at {l ps : List Spot} {k j : Nat} (h : CmpAt l ps k j) : ps[j]? = l[j]? ∧ ps[j - 1]? = l[j - 1]? := by
  have h1 := congrArg (fun x : List Spot => x[1]?) h.left
  have h2 := congrArg (fun x : List Spot => x[0]?) h.left
  have h3 := h.lt
  simp only [List.getElem?_drop, Nat.add_zero] at h1 h2
  rw [show j - 1 + 1 = j by omega] at h1
  exact ⟨h1, h2⟩
theorem CmpAt.skip {l ps : List Spot} {k j : Nat} (h : CmpAt l ps k j) {a b : Spot} (ha : l[j]? = some a) (hb : l[j - 1]? = some b) (hab : b = a) : CmpAt l ps k (j + 1) := by
  have hl := (List.getElem?_eq_some_iff.1 ha).1
  have hlt := h.lt
  refine ⟨h.len, by omega, by omega, ?_, ?_⟩
  · rw [packS_take (by omega) ha hb, if_pos hab, List.append_nil, h.got]
  · have := congrArg (List.drop 1) h.left
    rw [List.drop_drop, List.drop_drop] at this
    rw [Nat.add_sub_cancel]
    rwa [show j - 1 + 1 = j by omega] at this
theorem CmpAt.keep {l ps : List Spot} {k j : Nat} (h : CmpAt l ps k j) {a b : Spot} (ha : l[j]? = some a) (hb : l[j - 1]? = some b) (hab : b ≠ a) : CmpAt l (ps.set k a) (k + 1) (j + 1) := by
  have hl := (List.getElem?_eq_some_iff.1 ha).1
  have hlt := h.lt
  have hlen := h.len
  refine ⟨by rw [List.length_set]; exact h.len, by omega, by omega, ?_, ?_⟩
  · rw [List.take_succ_eq_append_getElem (by rw [List.length_set]; omega), List.getElem_set_self, List.take_set_of_le (Nat.le_refl _), h.got, packS_take (by omega) ha hb, if_neg hab]
  · have := congrArg (List.drop 1) h.left
    rw [List.drop_drop, List.drop_drop] at this
    rw [Nat.add_sub_cancel, List.drop_set_of_lt (by omega)]
    rwa [show j - 1 + 1 = j by omega] at this
end Go.Proofs.YtokeciekncincabGreat
namespace Go.Proofs.YtokeciekncincabGreat
open Go Go.RowKit

theorem drops_all (who : Int) : ∀ (ks : List Spot) (H : List LkE), ks.foldl (fun H s => dropS H who s) H = H.filter fun e => e.who != who || !decide (e.s ∈ ks)
  | [], H => by
    rw [List.foldl_nil]
    exact (List.filter_eq_self.2 fun e _ => by simp).symm
  | s :: ks, H => by
    rw [List.foldl_cons, drops_all who ks]
    unfold dropS
    rw [List.filter_filter]
    refine List.filter_congr fun e _ => ?_
    by_cases h1 : e.who = who <;> by_cases h2 : e.s = s <;> by_cases h3 : e.s ∈ ks <;> simp_all
theorem drops_spots (H : List LkE) (who : Int) {ks : List Spot} (hk : ∀ s ∈ spotsL H who, s ∈ ks) : ks.foldl (fun H s => dropS H who s) H = H.filter fun e => e.who != who := by
  rw [drops_all]
  refine List.filter_congr fun e he => ?_
  by_cases h1 : e.who = who
  · have h2 : e.s ∈ spotsL H who := ((foldl_addL _ [] (by simp [SortedS])).2 e.s).2 (.inr ⟨e, List.mem_filter.2 ⟨he, by simpa using h1⟩, rfl⟩)
    simp [h1, hk _ h2]
  · simp [h1]
end Go.Proofs.YtokeciekncincabGreat
namespace Go.Proofs.YtokeciekncincabGreat
open Go

/-- What one call leaves, by its kind modulo ten. -/
def doKd (kd : Int) (D : LkS) (who : Int) (s : Spot) (m : Int) : LkS :=
  if kd = 6 ∨ kd = 9 then (freeL D who s).2 else if kd = 7 then (cancelL D who).2 else if kd = 8 then (leaveL D who).2 else (askL D who s m).2
theorem doKd_free {kd : Int} (h : kd = 6 ∨ kd = 9) (D : LkS) (who : Int) (s : Spot) (m : Int) : doKd kd D who s m = (freeL D who s).2 := by unfold doKd; rw [if_pos h]
theorem doKd_cancel (D : LkS) (who : Int) (s : Spot) (m : Int) : doKd 7 D who s m = (cancelL D who).2 := rfl
theorem doKd_leave (D : LkS) (who : Int) (s : Spot) (m : Int) : doKd 8 D who s m = (leaveL D who).2 := rfl
theorem doKd_ask {kd : Int} (h6 : kd ≠ 6) (h9 : kd ≠ 9) (h7 : kd ≠ 7) (h8 : kd ≠ 8) (D : LkS) (who : Int) (s : Spot) (m : Int) : doKd kd D who s m = (askL D who s m).2 := by
  unfold doKd
  rw [if_neg (by rintro (h | h) <;> contradiction), if_neg h7, if_neg h8]
theorem kinds (kd : Int) : (kd = 6 ∨ kd = 9 ∨ kd = 7 ∨ kd = 8) ∨ (kd ≠ 6 ∧ kd ≠ 9 ∧ kd ≠ 7 ∧ kd ≠ 8) := by omega
theorem doKd_b {kd : Int} {D : LkS} (h : BInv D) (who : Int) (s : Spot) (m : Int) : BInv (doKd kd D who s m) := by
  unfold doKd
  split
  · exact free_b h who s
  split
  · exact cancel_b h who
  split
  · exact leave_b h who
  exact ask_b h who s m
theorem doKd_all {p : Int → Spot → Prop} {kd : Int} {D : LkS} (h : AllE p D) (who : Int) (s : Spot) (m : Int) (hp : mayL s m = true → p who s) : AllE p (doKd kd D who s m) := by
  unfold doKd
  split
  · exact all_free h who s
  split
  · exact all_cancel h who
  split
  · have h1 := all_leave h who
    exact ⟨fun e he => (h1.1 e he).1, fun e he => (h1.2 e he).1⟩
  exact all_ask h who s m hp
theorem doKd_used {kd : Int} {D : LkS} (h : LInv D) (hu : (usedL D : Int) ≤ D.most) (who : Int) (s : Spot) (m : Int) : (usedL (doKd kd D who s m) : Int) ≤ D.most ∧ (doKd kd D who s m).most = D.most := by
  unfold doKd
  split
  · obtain ⟨h1, h2⟩ := free_used h who s
    exact ⟨by omega, h2⟩
  split
  · obtain ⟨h1, h2⟩ := cancel_used h who
    exact ⟨by omega, h2⟩
  split
  · obtain ⟨h1, h2⟩ := leave_used h who
    exact ⟨by omega, h2⟩
  exact ask_used h hu who s m
theorem ask_most (D : LkS) (who : Int) (s : Spot) (m : Int) : (askL D who s m).2.most = D.most := by
  unfold askL
  repeat' split
  all_goals rfl
theorem doKd_most {kd : Int} {D : LkS} (h : LInv D) (who : Int) (s : Spot) (m : Int) : (doKd kd D who s m).most = D.most := by
  unfold doKd
  split
  · exact (free_used h who s).2
  split
  · exact (cancel_used h who).2
  split
  · exact (leave_used h who).2
  exact ask_most D who s m
/-- Of none of these there is anything. -/
def NoneOf (l : List Int) (D : LkS) : Prop := AllE (fun w _ => w ∉ l) D
theorem none_leave {l : List Int} {D : LkS} (h : NoneOf l D) (who : Int) : NoneOf (l ++ [who]) (leaveL D who).2 := by
  have h1 := all_leave h who
  refine ⟨fun e he => ?_, fun e he => ?_⟩
  all_goals
    intro h2
    rw [List.mem_append, List.mem_singleton] at h2
    first
      | exact h2.elim (h1.1 e he).1 (h1.1 e he).2
      | exact h2.elim (h1.2 e he).1 (h1.2 e he).2
theorem none_at_all {l : List Int} {D : LkS} (h : NoneOf l D) (h2 : AllE (fun w _ => w ∈ l) D) : D.H = [] ∧ D.W = [] :=
  all_none ⟨fun e he => h.1 e he (h2.1 e he), fun e he => h.2 e he (h2.2 e he)⟩
end Go.Proofs.YtokeciekncincabGreat
