/-
 Maps in memory as lists of pairs: what is there, what stands at a key, put, delete, size. Elements of whatever type.
 No condition.
-/
import Derived.Test.YtgpekgnhbccnoaaGreatPkY1
import Derived.Maps.RangeWalk
namespace Go.Proofs.YtgpekgnhbccnoaaGreat
open Go Go.RowKit Go.Maps Go.ChangeMaps Go.WideShapes

/-- An element reads as itself. -/
def heldR (v : Value) : Option (DataW Value × List MemPlace) := some (.held v, [])
theorem heldR_inv {v : Value} {d : DataW Value} {ps : List MemPlace} (h : heldR v = some (d, ps)) : d = .held v := by cases h; rfl
/-- Keys as data: which keys are one is told by them. -/
structure KeyOk {κ : Type} (key : κ → Lit) : Prop where
 same : ∀ a b, (key a).sameKey (key b) = true ↔ a = b
theorem intKey : KeyOk (fun a : Int => Lit.int .i64 a) := ⟨fun a b => by simp [Lit.sameKey]⟩
/-- D reads as the pairs M, whatever their order; no key twice. -/
def MapIs {κ α : Type} (key : κ → Lit) (enc : α → Value) (D : DataW Value) (M : List (κ × α)) : Prop :=
 ∃ E, D = .map E ∧ E.Perm (M.map fun p => (key p.1, DataW.held (enc p.2))) ∧ (M.map Prod.fst).Nodup

section
variable {κ α : Type} {key : κ → Lit} {enc : α → Value} {D : DataW Value} {M : List (κ × α)}
theorem MapIs.nil (key : κ → Lit) (enc : α → Value) : MapIs key enc (.map []) [] := ⟨[], rfl, by simp, by simp⟩
theorem MapIs.nodup (h : MapIs key enc D M) : (M.map Prod.fst).Nodup := by obtain ⟨_, _, _, h⟩ := h; exact h
theorem MapIs.size (h : MapIs key enc D M) : Maps.size D = M.length := by
 obtain ⟨E, rfl, h1, _⟩ := h
 have := h1.length_eq
 simpa [Maps.size] using this
theorem KeyOk.same_false (hk : KeyOk key) {a b : κ} (h : a ≠ b) : (key a).sameKey (key b) = false := by
 cases hs : (key a).sameKey (key b) with
 | false => rfl
 | true => exact absurd ((hk.same a b).1 hs) h
theorem MapIs.has [DecidableEq κ] (h : MapIs key enc D M) (hk : KeyOk key) (x : κ) : Maps.has D (key x) = (M.map Prod.fst).contains x := by
 obtain ⟨E, rfl, h1, _⟩ := h
 show E.any (fun p => p.1.sameKey (key x)) = _
 rw [Bool.eq_iff_iff, List.any_eq_true, List.contains_iff_mem, List.mem_map]
 constructor
 ·rintro ⟨p, hp, hs⟩
  obtain ⟨q, hq, rfl⟩ := List.mem_map.1 (h1.mem_iff.1 hp)
  exact ⟨q, hq, (hk.same _ _).1 hs⟩
 ·rintro ⟨q, hq, rfl⟩
  exact ⟨_, h1.mem_iff.2 (List.mem_map.2 ⟨q, hq, rfl⟩), (hk.same _ _).2 rfl⟩
theorem MapIs.at [DecidableEq κ] (h : MapIs key enc D M) (hk : KeyOk key) {x : κ} {v : α} (hx : (x, v) ∈ M) (z : DataW Value) : D.atKey (key x) z = .held (enc v) := by
 obtain ⟨E, rfl, h1, h2⟩ := h
 unfold DataW.atKey
 simp only
 have hm : (key x, DataW.held (enc v)) ∈ E := h1.mem_iff.2 (List.mem_map.2 ⟨(x, v), hx, rfl⟩)
 cases hf : E.find? (fun p => p.1.sameKey (key x)) with
 | none =>
  have := List.find?_eq_none.1 hf _ hm
  exact absurd ((hk.same _ _).2 rfl) (by simpa using this)
 | some p =>
  have hs := List.find?_some hf
  obtain ⟨q, hq, rfl⟩ := List.mem_map.1 (h1.mem_iff.1 (List.mem_of_find?_eq_some hf))
  have e1 : q.1 = x := (hk.same _ _).1 (by simpa using hs)
  have : q = (x, v) := by
   rw [List.nodup_iff_pairwise_ne, List.pairwise_map] at h2
   refine Classical.byContradiction fun hne => ?_
   rcases List.mem_iff_getElem.1 hq with ⟨i, hi, rfl⟩
   rcases List.mem_iff_getElem.1 hx with ⟨j, hj, hjx⟩
   have hij : i ≠ j := by intro e; subst e; exact hne hjx
   rw [List.pairwise_iff_getElem] at h2
   rcases Nat.lt_or_gt_of_ne hij with h3 | h3
   ·exact h2 i j hi hj h3 (by rw [e1, hjx])
   ·exact h2 j i hj hi h3 (by rw [e1, hjx])
  rw [this]
theorem MapIs.at_none [DecidableEq κ] (h : MapIs key enc D M) (hk : KeyOk key) {x : κ} (hx : (M.map Prod.fst).contains x = false) (z : DataW Value) : D.atKey (key x) z = z :=
 atKey_of_not_has (by rw [h.has hk, hx]) z
theorem filter_key [DecidableEq κ] (hk : KeyOk key) (enc : α → Value) (x : κ) (M : List (κ × α)) : (M.map fun p => (key p.1, DataW.held (enc p.2))).filter (fun p => !p.1.sameKey (key x)) = (M.filter fun p => !decide (p.1 = x)).map fun p => (key p.1, DataW.held (enc p.2)) := by
 induction M with
 | nil => rfl
 | cons p M ih =>
  simp only [List.map_cons, List.filter_cons, ih]
  by_cases e : p.1 = x
  ·have : (key x).sameKey (key x) = true := (hk.same _ _).2 rfl
   simp [this, e]
  ·have : (key p.1).sameKey (key x) = false := hk.same_false e
   simp [this, e]
/-- A store: behind all others. -/
theorem MapIs.put [DecidableEq κ] (h : MapIs key enc D M) (hk : KeyOk key) (x : κ) (v : α) : MapIs key enc (D.put (key x) (.held (enc v))) ((M.filter fun p => !decide (p.1 = x)) ++ [(x, v)]) := by
 obtain ⟨E, rfl, h1, h2⟩ := h
 refine ⟨_, rfl, ?_, ?_⟩
 ·rw [List.map_append, ← filter_key hk enc]
  exact (insert_perm _ _).trans ((((h1.filter _).cons _)).trans (List.perm_append_singleton _ _).symm)
 ·rw [List.map_append, List.nodup_append]
  refine ⟨(List.Sublist.map _ List.filter_sublist).nodup h2, by simp, fun a ha b hb e => ?_⟩
  simp at hb
  subst hb; subst e
  obtain ⟨p, hp, hp2⟩ := List.mem_map.1 ha
  have := (List.mem_filter.1 hp).2
  rw [hp2] at this
  simp at this
theorem MapIs.mem [DecidableEq κ] (h : MapIs key enc D M) {x : κ} (hx : (M.map Prod.fst).contains x = true) : ∃ v, (x, v) ∈ M := by
 have _ := h
 obtain ⟨p, hp, rfl⟩ := List.mem_map.1 (List.contains_iff_mem.1 hx)
 exact ⟨p.2, hp⟩
end

/-- Block b is a map that reads as the pairs M; its number of entries is theirs. -/
def MapAt {κ α : Type} (P : Program) (k : TypeId) (key : κ → Lit) (enc : α → Value) (w : World) (b : Nat) (M : List (κ × α)) : Prop :=
 ∃ D, w.ownsMap P k heldR b M.length D ∧ MapIs key enc D M

section
variable {κ α : Type} {P : Program} {k : TypeId} {key : κ → Lit} {enc : α → Value} {w w' : World} {b : Nat} {M : List (κ × α)}
theorem owns_tight {n : Nat} {D : DataW Value} (h : w.ownsMap P k heldR b n D) (hm : MapIs key enc D M) : w.ownsMap P k heldR b M.length D := by
 have hs := hm.size
 obtain ⟨es, clock, h1, h2, _, rfl⟩ := h
 refine ⟨es, clock, h1, h2, ?_, rfl⟩
 rw [← hs]
 simp [Maps.size, length_sorted]
theorem MapAt.mk {n : Nat} {D : DataW Value} (h : w.ownsMap P k heldR b n D) (hm : MapIs key enc D M) : MapAt P k key enc w b M := ⟨D, owns_tight h hm, hm⟩
theorem MapAt.lt (h : MapAt P k key enc w b M) : b < w.heap.size := by obtain ⟨D, h1, _⟩ := h; exact h1.lt
theorem MapAt.nodup (h : MapAt P k key enc w b M) : (M.map Prod.fst).Nodup := by obtain ⟨D, _, h1⟩ := h; exact h1.nodup
theorem owns_fr {n : Nat} {D : DataW Value} {S : Nat → Prop} (h : w.ownsMap P k heldR b n D) (hf : Fr w w' S) (hb : ¬ S b) : w'.ownsMap P k heldR b n D := by
 have hlt := h.lt
 obtain ⟨es, clock, h1, r⟩ := h
 exact ⟨es, clock, (hf.block b hlt hb).trans h1, r⟩
theorem MapAt.fr {S : Nat → Prop} (h : MapAt P k key enc w b M) (hf : Fr w w' S) (hb : ¬ S b) : MapAt P k key enc w' b M := by
 obtain ⟨D, h1, h2⟩ := h
 exact ⟨D, owns_fr h1 hf hb, h2⟩
theorem MapAt.fr0 (h : MapAt P k key enc w b M) (hf : Fr w w' Nil) : MapAt P k key enc w' b M := h.fr hf fun h => h
theorem MapAt.made (w : World) (P : Program) (k : TypeId) (key : κ → Lit) (enc : α → Value) : MapAt P k key enc (w.alloc (.map #[] 0)) w.heap.size [] := ⟨_, World.ownsMap_made w P k heldR, MapIs.nil key enc⟩
theorem turned_fr (h : w.mapTurned w' b) : Fr w w' (fun j => j = b) := by
 have g := h.grown
 exact ⟨g.os, g.tape, g.output, g.size, fun k hk hn => g.block k hk fun e => hn (by cases e; rfl)⟩
end

/-! ### at the operation -/
section
variable {κ α : Type} {P : Program} {key : κ → Lit} {enc : α → Value} (w : World) {ops : Array Oper} {rest : List Oper} {o : Oper} {a : Act} {Q : Exit → Act → World → Prop}
/-- What is got: the element, or the type's zero. -/
def getV [DecidableEq κ] (M : List (κ × α)) (x : κ) (z : α) : α := ((M.find? fun p => decide (p.1 = x)).map Prod.snd).getD z
theorem getV_mem [DecidableEq κ] {M : List (κ × α)} {x : κ} {v z : α} (hn : (M.map Prod.fst).Nodup) (h : (x, v) ∈ M) : getV M x z = v := by
 unfold getV
 cases hf : M.find? (fun p => decide (p.1 = x)) with
 | none =>
  have := List.find?_eq_none.1 hf _ h
  simp at this
 | some p =>
  have h1 := List.mem_of_find?_eq_some hf
  have h2 := List.find?_some hf
  simp only [decide_eq_true_eq] at h2
  have : p = (x, v) := by
   rw [List.nodup_iff_pairwise_ne, List.pairwise_map] at hn
   refine Classical.byContradiction fun hne => ?_
   rcases List.mem_iff_getElem.1 h1 with ⟨i, hi, rfl⟩
   rcases List.mem_iff_getElem.1 h with ⟨j, hj, hjx⟩
   have hij : i ≠ j := by intro e; subst e; exact hne hjx
   rw [List.pairwise_iff_getElem] at hn
   rcases Nat.lt_or_gt_of_ne hij with h3 | h3
   ·exact hn i j hi hj h3 (by rw [h2, hjx])
   ·exact hn j i hj hi h3 (by rw [h2, hjx])
  rw [this]; rfl
theorem getV_none [DecidableEq κ] {M : List (κ × α)} {x : κ} {z : α} (h : (M.map Prod.fst).contains x = false) : getV M x z = z := by
 unfold getV
 cases hf : M.find? (fun p => decide (p.1 = x)) with
 | none => rfl
 | some p =>
  have h1 := List.mem_of_find?_eq_some hf
  have h2 := List.find?_some hf
  simp only [decide_eq_true_eq] at h2
  subst h2
  rw [← Bool.not_eq_true, List.contains_iff_mem] at h
  exact absurd (List.mem_map.2 ⟨p, h1, rfl⟩) h
theorem MapIs.at_getV [DecidableEq κ] {D : DataW Value} {M : List (κ × α)} (h : MapIs key enc D M) (hk : KeyOk key) (x : κ) (z : α) : D.atKey (key x) (.held (enc z)) = .held (enc (getV M x z)) := by
 cases hc : (M.map Prod.fst).contains x with
 | false => rw [h.at_none hk hc, getV_none hc]
 | true =>
  obtain ⟨v, hv⟩ := h.mem hc
  rw [h.at hk hv, getV_mem h.nodup hv]
/-- .. at the operation itself. -/
theorem wp_map_set [DecidableEq κ] {Kk : Act → World → Prop} (m x y : Operand) (t : TypeId) (hop : o.op = Op.mapUpdate t m x y)
  (k e : TypeId) (K : Keyed P k) (ht : P.underlying t = some (.map k e)) (hk : KeyOk key) (b : Nat) (M : List (κ × α)) (hl : M.length < maxLen)
  (hm : a.eval m = .map (some b)) (hown : MapAt P k key enc w b M) (kv : Value) (kx : κ) (hx : a.eval x = kv) (hkey : keyOf P k kv = some (key kx)) (v : α) (hv : a.eval y = enc v)
  (hK : ∀ w1, MapAt P k key enc w1 b ((M.filter fun p => !decide (p.1 = kx)) ++ [(kx, v)]) → Fr w w1 (fun j => j = b) → Kk (a.put o.dst undef) w1) : o.wp P a w Kk Q := by
 obtain ⟨D, h1, h2⟩ := hown
 obtain ⟨w1, hrun, h3, h4⟩ := h1.store K ht hl hkey (val := enc v) (d := .held (enc v)) (ps := []) rfl
 unfold Oper.wp
 simp [execOp, hop, hm, hx, hv, hrun, Result.andThen]
 exact hK w1 (.mk h3 (h2.put hk kx v)) (turned_fr h4)
/-! ### ranging -/
end
end Go.Proofs.YtgpekgnhbccnoaaGreat
