/-
  Memory laws for the walks of this seat: what a call leaves as it was ('Fr'), a block known whole ('Bk'), a slice that reads as integers ('IntsAt'), a slice that is owned ('Own').
  No condition.
  Things that lie apart from each other in memory, all laid by the call itself; no program in sight.
  No condition.
 A reckoning: terms, the pile, what it tells; no program in sight.
 No condition.
 Worlds that have come of another by new blocks and draws alone: for regions with a sink.
 No condition.
 A row of known cells that is written over: the world behind it under one name.
 No condition.
-/
import Derived.WalkKit
import Derived.WalkSpells
import Derived.WalkLawsBesides
import Derived.OneCell
import Derived.Lib.Hide
import Derived.Maps.AppendAt
import Derived.Deep.AppendLies
namespace Go.Proofs.YtgpekgnhbccnoaaGreat
open Go Go.RowKit

/-- From w to w' nothing has turned but the blocks of S and what is new. -/
structure Fr (w w' : World) (S : Nat → Prop) : Prop where
  os : w'.os = w.os
  tape : w'.tape = w.tape
  output : w'.output = w.output
  size : w.heap.size ≤ w'.heap.size
  block : ∀ k, k < w.heap.size → ¬ S k → w'.heap[k]? = w.heap[k]?

/-- No block. -/
def Nil : Nat → Prop := fun _ => False

theorem Fr.refl (w : World) (S : Nat → Prop) : Fr w w S := ⟨rfl, rfl, rfl, Nat.le_refl _, fun _ _ _ => rfl⟩
theorem Fr.mono {w w' : World} {S T : Nat → Prop} (h : Fr w w' S) (hs : ∀ k, k < w.heap.size → S k → T k) : Fr w w' T :=
  ⟨h.os, h.tape, h.output, h.size, fun k hk ht => h.block k hk fun hS => ht (hs k hk hS)⟩
/-- Two steps: the second may turn what the first may, and what is new. -/
theorem Fr.trans {a b c : World} {S T : Nat → Prop} (h : Fr a b S) (k : Fr b c T) (hs : ∀ j, j < a.heap.size → T j → S j) : Fr a c S :=
  ⟨k.os.trans h.os, k.tape.trans h.tape, k.output.trans h.output, Nat.le_trans h.size k.size,
   fun j hj hS => (k.block j (Nat.lt_of_lt_of_le hj h.size) fun ht => hS (hs j hj ht)).trans (h.block j hj hS)⟩
theorem Fr.trans0 {a b c : World} {S : Nat → Prop} (h : Fr a b S) (k : Fr b c Nil) : Fr a c S := h.trans k fun _ _ h => h.elim
theorem Fr.transS {a b c : World} {S : Nat → Prop} (h : Fr a b S) (k : Fr b c S) : Fr a c S := h.trans k fun _ _ h => h
theorem Fr.of_nil {a b : World} {S : Nat → Prop} (h : Fr a b Nil) : Fr a b S := h.mono fun _ _ h => h.elim
theorem Fr.alloc {a w : World} {S : Nat → Prop} (h : Fr a w S) (o : Obj) : Fr a (w.alloc o) S :=
  h.trans (T := Nil) ⟨rfl, rfl, rfl, by simp, fun k hk _ => Below.heap_alloc _ _ _ hk⟩ fun _ _ h => h.elim
theorem Fr.drew {a w : World} {S : Nat → Prop} (h : Fr a w S) : Fr a w.drew S := ⟨h.os, h.tape, h.output, h.size, h.block⟩
theorem Fr.drewN {a w : World} {S : Nat → Prop} (h : Fr a w S) (n : Nat) : Fr a (w.drewN n) S := by
  cases n with
  | zero => exact h
  | succ n => exact ⟨h.os, h.tape, h.output, h.size, h.block⟩
theorem Fr.setCell {a w : World} {S : Nat → Prop} (h : Fr a w S) {p : Addr} (hp : p.block < a.heap.size → S p.block) (u : Value) : Fr a (w.setCell p u) S :=
  h.trans (T := fun k => k = p.block) ⟨rfl, rfl, rfl, by simp [World.setCell], fun k _ hk => Below.heap_setCell _ _ _ _ hk⟩
    fun j hj hjp => by subst hjp; exact hp hj
theorem Fr.store (w : World) (b c : Nat) (u : Value) : Fr w (w.setCell ⟨b, c, none⟩ u) (fun k => k = b) :=
  Fr.setCell (S := fun k => k = b) (Fr.refl w _) (p := ⟨b, c, none⟩) (fun _ => rfl) u
theorem Fr.grown {a w w' : World} {S : Nat → Prop} {row : Option Nat} (h : Fr a w S) (hg : w.grownBy w' row) (hr : ∀ k, row = some k → k < a.heap.size → S k) : Fr a w' S :=
  h.trans (T := fun k => row = some k) ⟨hg.os, hg.tape, hg.output, hg.size, fun k hk hn => hg.block k hk fun e => hn e.symm⟩ fun j hj e => hr j e hj
theorem Fr.below {w w' : World} (h : Fr w w' Nil) : Below w.heap.size w w' := ⟨h.os, h.tape, h.output, h.size, fun k hk => h.block k hk (fun h => h)⟩
theorem Fr.cell {w w' : World} {S : Nat → Prop} (h : Fr w w' S) {p : Addr} {v : Value} (hc : w.cell? p = some v) (hp : ¬ S p.block) : w'.cell? p = some v :=
  (World.cell?_of_block (h.block p.block (World.block_lt_of_cell? w p hc) hp)).trans hc
theorem Fr.frozen {w w' : World} {S : Nat → Prop} (h : Fr w w' S) {p : Addr} (hlt : p.block < w.heap.size) (hp : ¬ S p.block) : w'.frozen? p = w.frozen? p :=
  World.frozen?_of_block (h.block p.block hlt hp)
theorem Fr.own {w w' : World} {S : Nat → Prop} {base : Nat} {e : TypeId} {size : Nat} {v : Value} {n : Nat} {xs : List Value}
    (h : Fr w w' S) (ho : w.ownsRow base e size v n xs) (hv : ∀ k, v.ownBlock = some k → ¬ S k) : w'.ownsRow base e size v n xs := by
  refine ⟨ho.1, ?_⟩
  rcases ho.2 with hn | ⟨g, cap, cur, rfl, hb, hg, rest⟩
  · exact .inl hn
  · exact .inr ⟨g, cap, cur, rfl, hb, (h.block g (lt_of_block hg) (hv g rfl)).trans hg, rest⟩

theorem own_mono {w : World} {base base' : Nat} {e : TypeId} {size : Nat} {v : Value} {n : Nat} {xs : List Value} (h : w.ownsRow base e size v n xs) (hb : base' ≤ base) : w.ownsRow base' e size v n xs := by
  refine ⟨h.1, ?_⟩
  rcases h.2 with hn | ⟨g, cap, cur, hv, hg, r⟩
  · exact .inl hn
  · exact .inr ⟨g, cap, cur, hv, Nat.le_trans hb hg, r⟩

/-- Block g holds just these cells, and may be written. -/
def Bk (w : World) (g : Nat) (e : TypeId) (cs : List Value) : Prop := w.heap[g]? = some (.cells cs.toArray e (0, 0))
theorem Bk.lt {w : World} {g : Nat} {e : TypeId} {cs : List Value} (h : Bk w g e cs) : g < w.heap.size := lt_of_block h
theorem Bk.cell {w : World} {g : Nat} {e : TypeId} {cs : List Value} (h : Bk w g e cs) (j : Nat) : w.cell? ⟨g, j, none⟩ = cs[j]? := by
  unfold Bk at h; simp [World.cell?, h]
theorem Bk.free {w : World} {g : Nat} {e : TypeId} {cs : List Value} (h : Bk w g e cs) (j : Nat) : w.frozen? ⟨g, j, none⟩ = false := by
  unfold Bk at h; simp [World.frozen?, h]
theorem Bk.fr {w w' : World} {S : Nat → Prop} {g : Nat} {e : TypeId} {cs : List Value} (h : Bk w g e cs) (hf : Fr w w' S) (hg : ¬ S g) : Bk w' g e cs :=
  (hf.block g h.lt hg).trans h
theorem Bk.new (w : World) (e : TypeId) (cs : Array Value) : Bk (w.alloc (.cells cs e)) w.heap.size e cs.toList := by
  unfold Bk; rw [heap_alloc_new]
theorem Bk.set {w : World} {g : Nat} {e : TypeId} {cs : List Value} (h : Bk w g e cs) (j : Nat) (u : Value) : Bk (w.setCell ⟨g, j, none⟩ u) g e (cs.set j u) := by
  unfold Bk
  rw [heap_setCell_same w g j _ e u h]
  simp
theorem Bk.alloc {w : World} {g : Nat} {e : TypeId} {cs : List Value} (h : Bk w g e cs) (o : Obj) : Bk (w.alloc o) g e cs :=
  h.fr ((Fr.refl w Nil).alloc o) (fun h => h)
theorem Bk.drew {w : World} {g : Nat} {e : TypeId} {cs : List Value} (h : Bk w g e cs) : Bk w.drew g e cs := h

/-- Nothing of v lies below B. -/
def NewFrom (B : Nat) (v : Value) : Prop := ∀ k, v.ownBlock = some k → B ≤ k

theorem Bk.setRow {w : World} {g : Nat} {e : TypeId} {cs : List Value} (h : Bk w g e cs) (cs' : List Value) : Bk (w.setRow g cs'.toArray) g e cs' ∧ w.grownBy (w.setRow g cs'.toArray) (some g) :=
  ⟨setRow_heap w g _ _ e _ h, ⟨rfl, rfl, rfl, by simp, fun k _ hk => setRow_other w g k _ (fun e => hk (by simp [e]))⟩⟩
theorem sizeOf_run {P : Program} {e : TypeId} {i : TypeInfo} (hi : P.info? e = some i) (w : World) : (sizeOf e).run P w = .ok i.size w := by simp [sizeOf, typeInfo, hi]
/-- 'copy' into a block that is known whole, elements of whatever size. -/
theorem run_copy_bk {P : Program} {w : World} (dT sT ty e : TypeId) (i : TypeInfo) (hu : P.underlying dT = some (.slice e)) (hi : P.info? e = some i) (g o dLen dCap : Nat) (ad : Addr) (sLen sCap m : Nat) {e' : TypeId} {cs : List Value}
    (hg : Bk w g e' cs) (news : List Value) (hm : Nat.min sLen dLen = m) (hl : news.length = m * i.size) (hnews : ∀ j u, news[j]? = some u → w.cell? (ad.add j) = some u) (hfit : o + news.length ≤ cs.length) (h1 : ∀ u ∈ news, u.oneCell' = true) :
    ∃ w', (Builtin.copy_ #[dT, sT] ty #[.slice (some ⟨g, o, none⟩) dLen dCap, .slice (some ad) sLen sCap]).run P w = .ok (goInt m) w' ∧ Bk w' g e' (cs.take o ++ news ++ cs.drop (o + news.length)) ∧ w.grownBy w' (some g) := by
  have hf := run_firstCells_some (P := P) w i.size m ad sLen sCap news hl hnews
  have hst := run_storeCells_at P g o e' news 0 cs.toArray w hg (by simpa using hfit) h1
  simp only [Nat.add_zero] at hst
  refine ⟨_, ?_, (hg.setRow _).1, (hg.setRow _).2⟩
  simp [Builtin.copy_, run_underlying hu, Builtin.lenOf, sizeOf_run hi, hm, hf, hst]
/-- 'append(s, make([]T, l)...)' where there is no room: a new row. -/
theorem run_append_zeros {P : Program} {w : World} (t tn ty e : TypeId) (i : TypeInfo) (z : Value) (kn : IntKind) (ht : P.underlying t = some (.slice e)) (htn : P.underlying tn = some (.int kn)) (hi : P.info? e = some i) (hz : i.zero = some z)
    (a : Addr) (n cap : Nat) (xs : List Value) (hx : xs.length = n * i.size) (hxs : ∀ j u, xs[j]? = some u → w.cell? (a.add j) = some u) (l : Nat) (hl : 0 < l) (hs : 0 < i.size) (hcap : cap < n + l) (hnc : n ≤ cap) (hb : (n + l) * i.bytes ≤ 1000000000) (hb1 : n + l ≤ 1000000000) (L : Int) (hL : L = (l : Int)) :
    ∃ (nc : Nat) (w' : World) (rest : List Value), (Builtin.append_ #[t, tn] ty #[.slice (some a) n cap, .int .i64 L]).run P w = .ok (.slice (some ⟨w.heap.size, 0, none⟩) (n + l) nc) w' ∧ Bk w' w.heap.size e (xs ++ (Builtin.zeroCells z.cells l).toList ++ rest) ∧ n + l ≤ nc ∧ nc ≤ maxLen ∧
      (z.cells.size = i.size → (xs ++ (Builtin.zeroCells z.cells l).toList ++ rest).length = nc * i.size) ∧ Fr w w' Nil := by
  subst hL
  have hw : IntKind.i64.wrap (l : Int) = l := by rw [IntKind.wrap_i64]; omega
  have hneg : ¬ ((l : Int) < 0) := by omega
  have h48i : ¬ (281474976710656 < (l : Int) * (i.bytes : Int)) := by
    rw [← Int.natCast_mul]
    have : l * i.bytes ≤ (n + l) * i.bytes := Nat.mul_le_mul_right _ (by omega)
    omega
  have hns : ¬ (l * i.size = 0) := Nat.mul_ne_zero (by omega) (by omega)
  have h63 : ¬ ((9223372036854775807 : Int) < (n : Int) + (l : Int)) := by omega
  have hge := grownCap_ge w (n + l) cap e
  have hlm := grownCap_le_maxLen w (n + l) cap e (by unfold maxLen; omega)
  have hroom : ¬ (n + l ≤ cap) := by omega
  have h48 : ¬ (281474976710656 < Builtin.nextslicecap (n + l) cap * i.bytes) := by
    have := growslice_fits (bytes := i.bytes) (need := n + l) (old := cap) (by omega) (by omega)
    omega
  have hf := run_firstCells_some (P := P) w.drew i.size n a n cap xs hx hxs
  refine ⟨grownCap w (n + l) cap e, w.drew.alloc (.cells (xs.toArray ++ Builtin.zeroCells z.cells l ++ Builtin.zeroCells z.cells (grownCap w (n + l) cap e - (n + l))) e), (Builtin.zeroCells z.cells (grownCap w (n + l) cap e - (n + l))).toList, ?_, ?_, hge, hlm, ?_, (Fr.refl w Nil).drew.alloc _⟩
  · simp [Builtin.append_, run_underlying ht, run_underlying htn, sizeOf, typeInfo, zeroValue, hi, hz, asInt, asIntOf, hw, hneg, hns, h63, h48i, h48, hroom, Question.forced, newRow, grownCap] at hf ⊢
    simp [hf]
  · have := Bk.new w.drew e (xs.toArray ++ Builtin.zeroCells z.cells l ++ Builtin.zeroCells z.cells (grownCap w (n + l) cap e - (n + l)))
    simpa using this
  · intro hzs
    simp [size_zeroCells, hzs, hx, ← Nat.add_mul]
    congr 1; omega

/-- v is a slice that reads as the integers xs. -/
def IntsAt (w : World) (v : Value) (xs : List Int) : Prop :=
  (v = .slice none 0 0 ∧ xs = []) ∨ ∃ a cap, v = .slice (some a) xs.length cap ∧ ∀ j u, (xs.map (Value.int .i64))[j]? = some u → w.cell? (a.add j) = some u

/-- v is a slice over a row of its own that holds the integers xs (type e). -/
def OwnInts (w : World) (e : TypeId) (v : Value) (xs : List Int) : Prop := w.ownsRow 0 e 1 v xs.length (xs.map (Value.int .i64))

theorem OwnInts.at {w : World} {e : TypeId} {v : Value} {xs : List Int} (h : OwnInts w e v xs) : IntsAt w v xs := by
  rcases h.2 with ⟨rfl, hn⟩ | ⟨g, cap, cur, rfl, rest⟩
  · exact .inl ⟨rfl, List.eq_nil_of_length_eq_zero hn⟩
  · exact .inr ⟨_, cap, rfl, h.cells (g := g) rfl⟩
theorem OwnInts.shape {w : World} {e : TypeId} {v : Value} {xs : List Int} (h : OwnInts w e v xs) : ∃ a cap, v = .slice a xs.length cap := by
  rcases h.2 with ⟨rfl, hn⟩ | ⟨g, cap, cur, rfl, rest⟩
  · exact ⟨none, 0, by rw [hn]⟩
  · exact ⟨_, cap, rfl⟩
theorem OwnInts.fr {w w' : World} {S : Nat → Prop} {e : TypeId} {v : Value} {xs : List Int} (h : OwnInts w e v xs) (hf : Fr w w' S) (hv : ∀ k, v.ownBlock = some k → ¬ S k) : OwnInts w' e v xs :=
  hf.own h hv
theorem OwnInts.lt {w : World} {e : TypeId} {v : Value} {xs : List Int} (h : OwnInts w e v xs) : ∀ k, v.ownBlock = some k → k < w.heap.size := fun k hk => (World.ownsRow.lt h k hk).2
theorem OwnInts.form {w : World} {e : TypeId} {v : Value} {xs : List Int} (h : OwnInts w e v xs) (hn : 0 < xs.length) : ∃ b cap, v = .slice (some ⟨b, 0, none⟩) xs.length cap ∧ xs.length ≤ cap := by
  rcases h.2 with ⟨_, h0⟩ | ⟨g, cap, cur, hv, _, _, hc, _⟩
  · omega
  · exact ⟨g, cap, hv, hc⟩
theorem OwnInts.cell {w : World} {e : TypeId} {b n cap : Nat} {xs : List Int} (h : OwnInts w e (.slice (some ⟨b, 0, none⟩) n cap) xs) (hn : n = xs.length) (c : Nat) (hc : c < xs.length) : w.cell? ⟨b, c, none⟩ = some (.int .i64 (xs.getD c 0)) := by
  subst hn
  rw [World.ownsRow.cellAt h c (by omega)]
  simp [hc]
theorem OwnInts.free {w : World} {e : TypeId} {b n cap : Nat} {xs : List Int} (h : OwnInts w e (.slice (some ⟨b, 0, none⟩) n cap) xs) (hn : n = xs.length) (c : Nat) : w.frozen? ⟨b, c, none⟩ = false := by
  subst hn
  exact World.ownsRow.frozenAt h c
/-- What was read stays so while old blocks stay. -/
theorem IntsAt.fr {w w' : World} {v : Value} {xs : List Int} {S : Nat → Prop} (h : IntsAt w v xs) (hf : Fr w w' S) (hv : ∀ k, v.ownBlock = some k → ¬ S k) : IntsAt w' v xs := by
  rcases h with h | ⟨a, cap, rfl, hc⟩
  · exact .inl h
  · refine .inr ⟨a, cap, rfl, fun j u hu => hf.cell (hc j u hu) ?_⟩
    have : (a.add j).block = a.block := by unfold Addr.add; split <;> rfl
    rw [this]; exact hv _ rfl
theorem IntsAt.form {w : World} {v : Value} {xs : List Int} (h : IntsAt w v xs) (hn : 0 < xs.length) : ∃ b off cap, v = .slice (some ⟨b, off, none⟩) xs.length cap ∧ ∀ j n, xs[j]? = some n → w.cell? ⟨b, off + j, none⟩ = some (.int .i64 n) := by
  rcases h with ⟨_, rfl⟩ | ⟨a, cap, rfl, hc⟩
  · simp at hn
  · obtain ⟨b, off, spot⟩ := a
    have h0 := hc 0 (.int .i64 xs[0]) (by simp [hn])
    have hsp : spot = none := by
      cases spot with
      | none => rfl
      | some s =>
        simp only [Addr.add, if_true, World.cell?] at h0
        split at h0 <;> simp at h0
    subst hsp
    refine ⟨b, off, cap, rfl, fun j n hj => ?_⟩
    have := hc j (.int .i64 n) (by simp [hj])
    rwa [Addr.add_lit] at this
theorem IntsAt.shape {w : World} {v : Value} {xs : List Int} (h : IntsAt w v xs) : ∃ a cap, v = .slice a xs.length cap := by
  rcases h with ⟨rfl, rfl⟩ | ⟨a, cap, rfl, _⟩
  · exact ⟨none, 0, rfl⟩
  · exact ⟨some a, cap, rfl⟩

theorem split_at {α : Type} {l : List α} {i : Nat} {x : α} (h : l[i]? = some x) : l = l.take i ++ x :: l.drop (i + 1) ∧ (l.take i).length = i := by
  obtain ⟨hi, rfl⟩ := List.getElem?_eq_some_iff.1 h
  refine ⟨?_, by simp; omega⟩
  rw [← List.drop_eq_getElem_cons hi, List.take_append_drop]
theorem set_at {α : Type} (A B : List α) (x y : α) : (A ++ x :: B).set A.length y = A ++ y :: B := by simp
theorem nodup_mid {l1 l2 l3 : List Nat} (h : (l1 ++ l2 ++ l3).Nodup) : (∀ k ∈ l2, k ∉ l1 ∧ k ∉ l3) ∧ l2.Nodup := by
  rw [List.nodup_append] at h
  obtain ⟨h12, _, h3⟩ := h
  rw [List.nodup_append] at h12
  obtain ⟨_, h2, h4⟩ := h12
  exact ⟨fun k hk => ⟨fun h1 => h4 k h1 k hk rfl, fun h5 => h3 k (by simp [hk]) k h5 rfl⟩, h2⟩
/-- A piece is replaced by one of the same blocks and of new ones. -/
theorem nodup_replace {l1 l2 l3 l2' : List Nat} {N : Nat} (h : (l1 ++ l2 ++ l3).Nodup) (h2 : l2'.Nodup) (hk : ∀ k ∈ l2', k ∈ l2 ∨ N ≤ k) (h1 : ∀ k ∈ l1, k < N) (h3 : ∀ k ∈ l3, k < N) : (l1 ++ l2' ++ l3).Nodup := by
  have hm := (nodup_mid h).1
  rw [List.nodup_append] at h ⊢
  obtain ⟨h12, hn3, h4⟩ := h
  rw [List.nodup_append] at h12
  obtain ⟨hn1, hn2, h5⟩ := h12
  refine ⟨List.nodup_append.2 ⟨hn1, h2, fun a ha b hb hab => ?_⟩, hn3, fun a ha b hb hab => ?_⟩
  · subst hab
    rcases hk a hb with h | h
    · exact (hm a h).1 ha
    · have := h1 a ha; omega
  · subst hab
    rw [List.mem_append] at ha
    rcases ha with ha | ha
    · exact h4 a (by simp [ha]) a hb rfl
    · rcases hk a ha with h | h
      · exact (hm a h).2 hb
      · have := h3 a hb; omega

/-- A slice of n elements is handed back. -/
def RetSl (n : Nat) (R : Value → World → Prop) (e : Ending) (w' : World) : Prop := ∃ a cap, e = .returned (.slice a n cap) ∧ R (.slice a n cap) w'
end Go.Proofs.YtgpekgnhbccnoaaGreat
namespace Go.Proofs.YtgpekgnhbccnoaaGreat
open Go Go.RowKit

/-- What lies in blocks of its own. -/
structure Thing where
  At : World → (Nat → Prop) → Prop
  fr : ∀ {w w' : World} {S T : Nat → Prop}, At w S → Fr w w' T → (∀ k, S k → ¬ T k) → At w' S
  lt : ∀ {w : World} {S : Nat → Prop}, At w S → ∀ k, S k → k < w.heap.size
def Lies (w0 W : World) (l : List Thing) : Prop :=
  Fr w0 W Nil ∧ ∃ F : Nat → Nat → Prop, (∀ i x, l[i]? = some x → x.At W (F i) ∧ ∀ k, F i k → w0.heap.size ≤ k) ∧ ∀ i j, i < l.length → j < l.length → i ≠ j → ∀ k, F i k → ¬ F j k
theorem Lies.nil {w0 W : World} (h : Fr w0 W Nil) : Lies w0 W [] := ⟨h, fun _ _ => False, (fun i x hx => by simp at hx), fun i j hi => by simp at hi⟩
theorem Lies.fr {w0 W : World} {l : List Thing} (h : Lies w0 W l) : Fr w0 W Nil := h.1
theorem Lies.fr0 {w0 W W' : World} {l : List Thing} (h : Lies w0 W l) (hf : Fr W W' Nil) : Lies w0 W' l := by
  obtain ⟨h1, F, h2, h3⟩ := h
  exact ⟨h1.trans0 hf, F, fun i x hx => ⟨x.fr (h2 i x hx).1 hf fun _ _ h => h, (h2 i x hx).2⟩, h3⟩
theorem Lies.add {w0 W W' : World} {l : List Thing} (h : Lies w0 W l) (x : Thing) {S : Nat → Prop} (hx : x.At W' S) (hS : ∀ k, S k → W.heap.size ≤ k) (hf : Fr W W' Nil) : Lies w0 W' (l ++ [x]) := by
  have hsz := h.1.size
  obtain ⟨h1, F, h2, h3⟩ := h
  have hlt : ∀ i, i < l.length → ∀ k, F i k → k < W.heap.size := fun i hi k hk => l[i].lt (h2 i _ (List.getElem?_eq_getElem hi)).1 k hk
  refine ⟨h1.trans0 hf, fun i => if i = l.length then S else F i, fun i y hy => ?_, fun i j hi hj hij k => ?_⟩
  · have hi := (List.getElem?_eq_some_iff.1 hy).1
    rw [List.length_append, List.length_singleton] at hi
    dsimp only
    by_cases e : i = l.length
    · subst e
      rw [if_pos rfl]
      rw [List.getElem?_append_right (Nat.le_refl _), Nat.sub_self] at hy
      cases hy
      exact ⟨hx, fun k hk => Nat.le_trans hsz (hS k hk)⟩
    · rw [if_neg e]
      rw [List.getElem?_append_left (by omega)] at hy
      exact ⟨y.fr (h2 i y hy).1 hf fun _ _ h => h, (h2 i y hy).2⟩
  · simp only [List.length_append, List.length_singleton] at hi hj
    dsimp only
    by_cases e : i = l.length
    · rw [if_pos e, if_neg (by omega)]
      intro h1 h2
      have := hS k h1
      have := hlt j (by omega) k h2
      omega
    · rw [if_neg e]
      by_cases e2 : j = l.length
      · rw [if_pos e2]
        intro h1 h2
        have := hS k h2
        have := hlt i (by omega) k h1
        omega
      · rw [if_neg e2]
        exact h3 i j (by omega) (by omega) hij k
theorem Lies.take {w0 W : World} {l : List Thing} (h : Lies w0 W l) (n : Nat) : Lies w0 W (l.take n) := by
  obtain ⟨h1, F, h2, h3⟩ := h
  refine ⟨h1, F, fun i x hx => h2 i x ?_, fun i j hi hj => h3 i j ?_ ?_⟩
  · rw [List.getElem?_take] at hx
    split at hx
    · exact hx
    · cases hx
  · rw [List.length_take] at hi; omega
  · rw [List.length_take] at hj; omega
theorem Lies.get {w0 W : World} {l : List Thing} (h : Lies w0 W l) (i : Nat) (x : Thing) (hi : l[i]? = some x) :
    ∃ S, x.At W S ∧ (∀ k, S k → w0.heap.size ≤ k) ∧ ∀ (W' : World) (S' : Nat → Prop) (x' : Thing), x'.At W' S' → (∀ k, S' k → S k ∨ W.heap.size ≤ k) → Fr W W' S → Lies w0 W' (l.set i x') := by
  have hsz := h.1.size
  obtain ⟨h1, F, h2, h3⟩ := h
  have hlt : ∀ i, i < l.length → ∀ k, F i k → k < W.heap.size := fun i hi k hk => l[i].lt (h2 i _ (List.getElem?_eq_getElem hi)).1 k hk
  have hil := (List.getElem?_eq_some_iff.1 hi).1
  refine ⟨F i, (h2 i x hi).1, (h2 i x hi).2, fun W' S' x' hx hS hf => ⟨h1.trans hf fun k hk hs => by have := (h2 i x hi).2 k hs; omega, fun j => if j = i then S' else F j, fun j y hy => ?_, fun a b ha hb hab k => ?_⟩⟩
  · dsimp only
    by_cases e : j = i
    · subst e
      rw [if_pos rfl]
      rw [List.getElem?_set_self hil] at hy
      cases hy
      exact ⟨hx, fun k hk => (hS k hk).elim ((h2 j x hi).2 k) fun h => Nat.le_trans hsz h⟩
    · rw [if_neg e]
      rw [List.getElem?_set_ne (fun h => e h.symm)] at hy
      have hj := (List.getElem?_eq_some_iff.1 hy).1
      exact ⟨y.fr (h2 j y hy).1 hf fun k hk hk2 => h3 j i hj hil e k hk hk2, (h2 j y hy).2⟩
  · rw [List.length_set] at ha hb
    dsimp only
    by_cases e : a = i
    · rw [if_pos e, if_neg (by omega)]
      intro q1 q2
      rcases hS k q1 with q | q
      · exact h3 i b hil hb (by omega) k q q2
      · have := hlt b hb k q2; omega
    · rw [if_neg e]
      by_cases e2 : b = i
      · rw [if_pos e2]
        intro q1 q2
        rcases hS k q2 with q | q
        · exact h3 a i ha hil e k q1 q
        · have := hlt a ha k q1; omega
      · rw [if_neg e2]
        exact h3 a b ha hb hab k
/-- Two of them, the call having turned both. -/
theorem Lies.get2 {w0 W : World} {l : List Thing} (h : Lies w0 W l) (i j : Nat) (x y : Thing) (hi : l[i]? = some x) (hj : l[j]? = some y) (hij : i ≠ j) :
    ∃ S T, x.At W S ∧ y.At W T ∧ (∀ k, S k → ¬ T k) ∧ ∀ (W' : World) (S' T' : Nat → Prop) (x' y' : Thing), x'.At W' S' → y'.At W' T' → (∀ k, S' k → S k ∨ W.heap.size ≤ k) → (∀ k, T' k → T k ∨ W.heap.size ≤ k) → (∀ k, S' k → ¬ T' k) → Fr W W' (fun k => S k ∨ T k) → Lies w0 W' ((l.set i x').set j y') := by
  have hsz := h.1.size
  obtain ⟨h1, F, h2, h3⟩ := h
  have hlt : ∀ i, i < l.length → ∀ k, F i k → k < W.heap.size := fun i hi k hk => l[i].lt (h2 i _ (List.getElem?_eq_getElem hi)).1 k hk
  have hil := (List.getElem?_eq_some_iff.1 hi).1
  have hjl := (List.getElem?_eq_some_iff.1 hj).1
  refine ⟨F i, F j, (h2 i x hi).1, (h2 j y hj).1, h3 i j hil hjl hij, fun W' S' T' x' y' hx hy hS hT hST hf => ⟨h1.trans hf fun k hk hs => ?_, fun m => if m = j then T' else if m = i then S' else F m, fun m z hz => ?_, fun a b ha hb hab k => ?_⟩⟩
  · rcases hs with hs | hs
    · have := (h2 i x hi).2 k hs; omega
    · have := (h2 j y hj).2 k hs; omega
  · dsimp only
    by_cases e : m = j
    · subst e
      rw [if_pos rfl]
      rw [List.getElem?_set_self (by rw [List.length_set]; exact hjl)] at hz
      cases hz
      exact ⟨hy, fun k hk => (hT k hk).elim ((h2 m y hj).2 k) fun h => Nat.le_trans hsz h⟩
    · rw [if_neg e]
      rw [List.getElem?_set_ne (fun h => e h.symm)] at hz
      by_cases e2 : m = i
      · subst e2
        rw [if_pos rfl]
        rw [List.getElem?_set_self hil] at hz
        cases hz
        exact ⟨hx, fun k hk => (hS k hk).elim ((h2 m x hi).2 k) fun h => Nat.le_trans hsz h⟩
      · rw [if_neg e2]
        rw [List.getElem?_set_ne (fun h => e2 h.symm)] at hz
        have hm := (List.getElem?_eq_some_iff.1 hz).1
        exact ⟨z.fr (h2 m z hz).1 hf fun k hk hk2 => hk2.elim (h3 m i hm hil e2 k hk) (h3 m j hm hjl e k hk), (h2 m z hz).2⟩
  · simp only [List.length_set] at ha hb
    have key : ∀ b, b < l.length → b ≠ i → b ≠ j → (∀ k, S' k → ¬ F b k) ∧ ∀ k, T' k → ¬ F b k := fun b hb hbi hbj =>
      ⟨fun k q1 q2 => by
        rcases hS k q1 with q | q
        · exact h3 i b hil hb (Ne.symm hbi) k q q2
        · have := hlt b hb k q2; omega,
       fun k q1 q2 => by
        rcases hT k q1 with q | q
        · exact h3 j b hjl hb (Ne.symm hbj) k q q2
        · have := hlt b hb k q2; omega⟩
    dsimp only
    by_cases e : a = j
    · rw [if_pos e, if_neg (by omega)]
      by_cases e2 : b = i
      · rw [if_pos e2]; exact fun q1 q2 => hST k q2 q1
      · rw [if_neg e2]; exact (key b hb e2 (by omega)).2 k
    · rw [if_neg e]
      by_cases e2 : a = i
      · rw [if_pos e2]
        by_cases e3 : b = j
        · rw [if_pos e3]; exact hST k
        · rw [if_neg e3, if_neg (by omega)]; exact (key b hb (by omega) e3).1 k
      · rw [if_neg e2]
        by_cases e3 : b = j
        · rw [if_pos e3]; exact fun q1 q2 => (key a ha e2 e).2 k q2 q1
        · rw [if_neg e3]
          by_cases e4 : b = i
          · rw [if_pos e4]; exact fun q1 q2 => (key a ha e2 e).1 k q2 q1
          · rw [if_neg e4]; exact h3 a b ha hb hab k
/-- A block of the call's own. -/
def bkT (b : Nat) (e : TypeId) (cs : List Value) : Thing where
  At w S := Bk w b e cs ∧ ∀ k, S k ↔ k = b
  fr h hf hd := ⟨h.1.fr hf (hd b ((h.2 b).2 rfl)), h.2⟩
  lt h k hk := by rw [(h.2 k).1 hk]; exact h.1.lt
theorem Lies.bk {w0 W : World} {l : List Thing} {b : Nat} {e : TypeId} {cs : List Value} (h : Lies w0 W l) (i : Nat) (hi : l[i]? = some (bkT b e cs)) : Bk W b e cs := by
  obtain ⟨S, h1, _⟩ := h.get i _ hi
  exact h1.1
theorem Lies.newBk {w0 W : World} {l : List Thing} (h : Lies w0 W l) (e : TypeId) (cs : Array Value) : Lies w0 (W.alloc (.cells cs e)) (l ++ [bkT W.heap.size e cs.toList]) :=
  h.add (bkT W.heap.size e cs.toList) (S := fun k => k = W.heap.size) ⟨Bk.new W e cs, fun _ => Iff.rfl⟩ (fun k hk => by omega) ((Fr.refl W Nil).alloc _)
end Go.Proofs.YtgpekgnhbccnoaaGreat
namespace Go.Proofs.YtgpekgnhbccnoaaGreat
open Go Go.RowKit

structure TermD where
 kind : Int
 n : Int
 v : Int
deriving DecidableEq, Inhabited

/-- What one term does with the pile (the last one uppermost). -/
def stepP (vars : List Int) (t : TermD) (p : List Int) : Option (List Int) :=
 if t.kind = 1 then some (p ++ [t.n])
 else if t.kind = 2 then if 0 ≤ t.v ∧ t.v < vars.length then some (p ++ [vars.getD t.v.toNat 0]) else none
 else if t.kind = 6 then if 1 ≤ p.length then some (p.take (p.length - 1) ++ [wrap64 (-p.getD (p.length - 1) 0)]) else none
 else if t.kind = 3 then if 2 ≤ p.length then some (p.take (p.length - 2) ++ [wrap64 (p.getD (p.length - 2) 0 + p.getD (p.length - 1) 0)]) else none
 else if t.kind = 4 then if 2 ≤ p.length then some (p.take (p.length - 2) ++ [wrap64 (p.getD (p.length - 2) 0 - p.getD (p.length - 1) 0)]) else none
 else if t.kind = 5 then if 2 ≤ p.length then some (p.take (p.length - 2) ++ [wrap64 (p.getD (p.length - 2) 0 * p.getD (p.length - 1) 0)]) else none
 else none
def evalS (vars : List Int) : List TermD → List Int → Option (List Int)
 | [], p => some p
 | t :: l, p => match stepP vars t p with
  | some q => evalS vars l q
  | none => none
def evalP (vars : List Int) (l : List TermD) : Int × Bool :=
 match evalS vars l [] with
 | some [x] => (x, true)
 | _ => (0, false)
/-- One round of a loop over the terms. -/
theorem evalS_round {vars : List Int} {l : List TermD} {p : List Int} {i : Nat} {t : TermD} (h : evalS vars (l.drop i) p = evalS vars l []) (ht : l[i]? = some t) :
  (∀ q, stepP vars t p = some q → evalS vars (l.drop (i + 1)) q = evalS vars l []) ∧ (stepP vars t p = none → evalS vars l [] = none) := by
 have hi := (List.getElem?_eq_some_iff.1 ht).1
 have hd : l.drop i = t :: l.drop (i + 1) := by
  rw [List.drop_eq_getElem_cons hi]
  rw [List.getElem?_eq_getElem hi] at ht
  cases ht; rfl
 rw [hd, evalS] at h
 constructor
 ·intro q hq
  rw [hq] at h; exact h
 ·intro hn
  rw [hn] at h; exact h.symm
theorem evalP_end {vars : List Int} {l : List TermD} {p : List Int} {i : Nat} (h : evalS vars (l.drop i) p = evalS vars l []) (hi : l.length ≤ i) :
  evalP vars l = if p.length = 1 then (p.getD 0 0, true) else (0, false) := by
 rw [List.drop_of_length_le hi, evalS] at h
 unfold evalP
 rw [← h]
 match p with
 | [] => rfl
 | [x] => rfl
 | x :: y :: p => simp
theorem evalP_none {vars : List Int} {l : List TermD} (h : evalS vars l [] = none) : evalP vars l = (0, false) := by
 unfold evalP
 rw [h]
end Go.Proofs.YtgpekgnhbccnoaaGreat
namespace Go.Proofs.YtgpekgnhbccnoaaGreat
open Go

def KeptN (w0 w : World) : Prop := Fr w0 w Nil
theorem KeptN.fr {w0 w : World} (h : KeptN w0 w) : Fr w0 w Nil := h
theorem KeptN.next {w0 w w' : World} (h : KeptN w0 w) (hf : Fr w w' Nil) : KeptN w0 w' := Fr.trans0 h hf
/-- .. and the blocks of R. -/
def KeptR (R : Nat → Prop) (w0 w : World) : Prop := Fr w0 w R
theorem KeptN.weak {w0 w : World} (R : Nat → Prop) (h : KeptN w0 w) : KeptR R w0 w := Fr.of_nil h
theorem KeptR.cell {R : Nat → Prop} {w0 : World} {a : Addr} {v : Value} (h : w0.cell? a = some v) (hn : ¬ R a.block) : ∀ w, KeptR R w0 w → w.cell? a = some v := fun _ hf => Fr.cell hf h hn
end Go.Proofs.YtgpekgnhbccnoaaGreat
namespace Go.Proofs.YtgpekgnhbccnoaaGreat
open Go Go.RowKit
section
variable {P : World → Prop} {w : World} {b : Nat} {e : TypeId}
theorem set3_world {a0 a1 a2 b0 b1 b2 : Value} (h : Bk w b e [a0, a1, a2]) (hP : ∀ w', Bk w' b e [b0, b1, b2] → Fr w w' (fun k => k = b) → P w') : P (((w.setCell ⟨b, 0, none⟩ b0).setCell ⟨b, 1, none⟩ b1).setCell ⟨b, 2, none⟩ b2) := by
 refine hP _ (((h.set 0 b0).set 1 b1).set 2 b2) ?_
 iterate 3 refine Fr.setCell (S := fun k => k = b) (p := ⟨b, _, none⟩) ?_ (fun _ => rfl) _
 exact Fr.refl w _
theorem set7_world {a0 a1 a2 a3 a4 a5 a6 b0 b1 b2 b3 b4 b5 b6 : Value} (h : Bk w b e [a0, a1, a2, a3, a4, a5, a6]) (hP : ∀ w', Bk w' b e [b0, b1, b2, b3, b4, b5, b6] → Fr w w' (fun k => k = b) → P w') : P (((((((w.setCell ⟨b, 0, none⟩ b0).setCell ⟨b, 1, none⟩ b1).setCell ⟨b, 2, none⟩ b2).setCell ⟨b, 3, none⟩ b3).setCell ⟨b, 4, none⟩ b4).setCell ⟨b, 5, none⟩ b5).setCell ⟨b, 6, none⟩ b6) := by
 refine hP _ (((((((h.set 0 b0).set 1 b1).set 2 b2).set 3 b3).set 4 b4).set 5 b5).set 6 b6) ?_
 iterate 7 refine Fr.setCell (S := fun k => k = b) (p := ⟨b, _, none⟩) ?_ (fun _ => rfl) _
 exact Fr.refl w _
end
end Go.Proofs.YtgpekgnhbccnoaaGreat
