/-
  Maps in memory as lists of pairs: what is there, what stands at a key, put, delete, size. Elements of whatever type.
  No condition.
-/
import Derived.Test.YtokeciekncincabGreatPkC1
import Derived.Maps.RangeWalk
namespace Go.Proofs.YtokeciekncincabGreat
open Go Go.RowKit Go.Maps Go.ChangeMaps Go.WideShapes

/-- An element reads as itself. -/
def heldR (v : Value) : Option (DataW Value × List MemPlace) := some (.held v, [])
theorem heldR_inv {v : Value} {d : DataW Value} {ps : List MemPlace} (h : heldR v = some (d, ps)) : d = .held v := by cases h; rfl
/-- Keys as data: which keys are one is told by them. -/
structure KeyOk {κ : Type} (key : κ → Lit) : Prop where
  same : ∀ a b, (key a).sameKey (key b) = true ↔ a = b
theorem intKey : KeyOk (fun a : Int => Lit.int .i64 a) := ⟨fun a b => by simp [Lit.sameKey]⟩
/-- D reads as the pairs M, whatever their order; no key twice. -/
def MapIs {κ α : Type} (key : κ → Lit) (enc : α → Value) (D : DataW Value) (M : List (κ × α)) : Prop :=
  ∃ E, D = .map E ∧ E.Perm (M.map fun p => (key p.1, DataW.held (enc p.2))) ∧ (M.map Prod.fst).Nodup

section
variable {κ α : Type} {key : κ → Lit} {enc : α → Value} {D : DataW Value} {M : List (κ × α)}
theorem MapIs.nil (key : κ → Lit) (enc : α → Value) : MapIs key enc (.map []) [] := ⟨[], rfl, by simp, by simp⟩
theorem MapIs.nodup (h : MapIs key enc D M) : (M.map Prod.fst).Nodup := by obtain ⟨_, _, _, h⟩ := h; exact h
theorem MapIs.perm (h : MapIs key enc D M) {M' : List (κ × α)} (hp : M.Perm M') : MapIs key enc D M' := by
  obtain ⟨E, rfl, h1, h2⟩ := h
  exact ⟨E, rfl, h1.trans (hp.map _), (hp.map _).nodup_iff.1 h2⟩
theorem MapIs.size (h : MapIs key enc D M) : Maps.size D = M.length := by
  obtain ⟨E, rfl, h1, _⟩ := h
  have := h1.length_eq
  simpa [Maps.size] using this
theorem KeyOk.same_false (hk : KeyOk key) {a b : κ} (h : a ≠ b) : (key a).sameKey (key b) = false := by
  cases hs : (key a).sameKey (key b) with
  | false => rfl
  | true => exact absurd ((hk.same a b).1 hs) h
theorem MapIs.has [DecidableEq κ] (h : MapIs key enc D M) (hk : KeyOk key) (x : κ) : Maps.has D (key x) = (M.map Prod.fst).contains x := by
  obtain ⟨E, rfl, h1, _⟩ := h
  show E.any (fun p => p.1.sameKey (key x)) = _
  rw [Bool.eq_iff_iff, List.any_eq_true, List.contains_iff_mem, List.mem_map]
  constructor
  · rintro ⟨p, hp, hs⟩
    obtain ⟨q, hq, rfl⟩ := List.mem_map.1 (h1.mem_iff.1 hp)
    exact ⟨q, hq, (hk.same _ _).1 hs⟩
  · rintro ⟨q, hq, rfl⟩
    exact ⟨_, h1.mem_iff.2 (List.mem_map.2 ⟨q, hq, rfl⟩), (hk.same _ _).2 rfl⟩
theorem MapIs.at [DecidableEq κ] (h : MapIs key enc D M) (hk : KeyOk key) {x : κ} {v : α} (hx : (x, v) ∈ M) (z : DataW Value) : D.atKey (key x) z = .held (enc v) := by
  obtain ⟨E, rfl, h1, h2⟩ := h
  unfold DataW.atKey
  simp only
  have hm : (key x, DataW.held (enc v)) ∈ E := h1.mem_iff.2 (List.mem_map.2 ⟨(x, v), hx, rfl⟩)
  cases hf : E.find? (fun p => p.1.sameKey (key x)) with
  | none =>
    have := List.find?_eq_none.1 hf _ hm
    exact absurd ((hk.same _ _).2 rfl) (by simpa using this)
  | some p =>
    have hs := List.find?_some hf
    obtain ⟨q, hq, rfl⟩ := List.mem_map.1 (h1.mem_iff.1 (List.mem_of_find?_eq_some hf))
    have e1 : q.1 = x := (hk.same _ _).1 (by simpa using hs)
    have : q = (x, v) := by
      rw [List.nodup_iff_pairwise_ne, List.pairwise_map] at h2
      refine Classical.byContradiction fun hne => ?_
      rcases List.mem_iff_getElem.1 hq with ⟨i, hi, rfl⟩
      rcases List.mem_iff_getElem.1 hx with ⟨j, hj, hjx⟩
      have hij : i ≠ j := by intro e; subst e; exact hne hjx
      rw [List.pairwise_iff_getElem] at h2
      rcases Nat.lt_or_gt_of_ne hij with h3 | h3
      · exact h2 i j hi hj h3 (by rw [e1, hjx])
      · exact h2 j i hj hi h3 (by rw [e1, hjx])
    rw [this]
theorem MapIs.at_none [DecidableEq κ] (h : MapIs key enc D M) (hk : KeyOk key) {x : κ} (hx : (M.map Prod.fst).contains x = false) (z : DataW Value) : D.atKey (key x) z = z :=
  atKey_of_not_has (by rw [h.has hk, hx]) z
theorem filter_key [DecidableEq κ] (hk : KeyOk key) (enc : α → Value) (x : κ) (M : List (κ × α)) : (M.map fun p => (key p.1, DataW.held (enc p.2))).filter (fun p => !p.1.sameKey (key x)) = (M.filter fun p => !decide (p.1 = x)).map fun p => (key p.1, DataW.held (enc p.2)) := by
  induction M with
  | nil => rfl
  | cons p M ih =>
    simp only [List.map_cons, List.filter_cons, ih]
    by_cases e : p.1 = x
    · have : (key x).sameKey (key x) = true := (hk.same _ _).2 rfl
      simp [this, e]
    · have : (key p.1).sameKey (key x) = false := hk.same_false e
      simp [this, e]
theorem MapIs.del [DecidableEq κ] (h : MapIs key enc D M) (hk : KeyOk key) (x : κ) : MapIs key enc (D.del (key x)) (M.filter fun p => !decide (p.1 = x)) := by
  obtain ⟨E, rfl, h1, h2⟩ := h
  refine ⟨_, rfl, ?_, (List.Sublist.map _ List.filter_sublist).nodup h2⟩
  rw [← filter_key hk enc]
  exact h1.filter _
/-- A store: behind all others. -/
theorem MapIs.put [DecidableEq κ] (h : MapIs key enc D M) (hk : KeyOk key) (x : κ) (v : α) : MapIs key enc (D.put (key x) (.held (enc v))) ((M.filter fun p => !decide (p.1 = x)) ++ [(x, v)]) := by
  obtain ⟨E, rfl, h1, h2⟩ := h
  refine ⟨_, rfl, ?_, ?_⟩
  · rw [List.map_append, ← filter_key hk enc]
    exact (insert_perm _ _).trans ((((h1.filter _).cons _)).trans (List.perm_append_singleton _ _).symm)
  · rw [List.map_append, List.nodup_append]
    refine ⟨(List.Sublist.map _ List.filter_sublist).nodup h2, by simp, fun a ha b hb e => ?_⟩
    simp at hb
    subst hb; subst e
    obtain ⟨p, hp, hp2⟩ := List.mem_map.1 ha
    have := (List.mem_filter.1 hp).2
    rw [hp2] at this
    simp at this
theorem filter_none [DecidableEq κ] {x : κ} {M : List (κ × α)} (h : (M.map Prod.fst).contains x = false) : (M.filter fun p => !decide (p.1 = x)) = M := by
  rw [List.filter_eq_self]
  intro p hp
  rw [Bool.not_eq_true', decide_eq_false_iff_not]
  intro e
  subst e
  rw [← Bool.not_eq_true, List.contains_iff_mem] at h
  exact h (List.mem_map.2 ⟨p, hp, rfl⟩)
theorem MapIs.put_new [DecidableEq κ] (h : MapIs key enc D M) (hk : KeyOk key) {x : κ} (hx : (M.map Prod.fst).contains x = false) (v : α) : MapIs key enc (D.put (key x) (.held (enc v))) (M ++ [(x, v)]) := by
  have := h.put hk x v
  rwa [filter_none hx] at this
theorem MapIs.mem [DecidableEq κ] (h : MapIs key enc D M) {x : κ} (hx : (M.map Prod.fst).contains x = true) : ∃ v, (x, v) ∈ M := by
  have _ := h
  obtain ⟨p, hp, rfl⟩ := List.mem_map.1 (List.contains_iff_mem.1 hx)
  exact ⟨p.2, hp⟩
end

/-- Block b is a map that reads as the pairs M; its number of entries is theirs. -/
def MapAt {κ α : Type} (P : Program) (k : TypeId) (key : κ → Lit) (enc : α → Value) (w : World) (b : Nat) (M : List (κ × α)) : Prop :=
  ∃ D, w.ownsMap P k heldR b M.length D ∧ MapIs key enc D M

section
variable {κ α : Type} {P : Program} {k : TypeId} {key : κ → Lit} {enc : α → Value} {w w' : World} {b : Nat} {M : List (κ × α)}
theorem owns_tight {n : Nat} {D : DataW Value} (h : w.ownsMap P k heldR b n D) (hm : MapIs key enc D M) : w.ownsMap P k heldR b M.length D := by
  have hs := hm.size
  obtain ⟨es, clock, h1, h2, _, rfl⟩ := h
  refine ⟨es, clock, h1, h2, ?_, rfl⟩
  rw [← hs]
  simp [Maps.size, length_sorted]
theorem MapAt.mk {n : Nat} {D : DataW Value} (h : w.ownsMap P k heldR b n D) (hm : MapIs key enc D M) : MapAt P k key enc w b M := ⟨D, owns_tight h hm, hm⟩
theorem MapAt.lt (h : MapAt P k key enc w b M) : b < w.heap.size := by obtain ⟨D, h1, _⟩ := h; exact h1.lt
theorem MapAt.nodup (h : MapAt P k key enc w b M) : (M.map Prod.fst).Nodup := by obtain ⟨D, _, h1⟩ := h; exact h1.nodup
theorem MapAt.perm {M' : List (κ × α)} (h : MapAt P k key enc w b M) (hp : M.Perm M') : MapAt P k key enc w b M' := by
  obtain ⟨D, h1, h2⟩ := h
  exact .mk h1 (h2.perm hp)
theorem owns_fr {n : Nat} {D : DataW Value} {S : Nat → Prop} (h : w.ownsMap P k heldR b n D) (hf : Fr w w' S) (hb : ¬ S b) : w'.ownsMap P k heldR b n D := by
  have hlt := h.lt
  obtain ⟨es, clock, h1, r⟩ := h
  exact ⟨es, clock, (hf.block b hlt hb).trans h1, r⟩
theorem MapAt.fr {S : Nat → Prop} (h : MapAt P k key enc w b M) (hf : Fr w w' S) (hb : ¬ S b) : MapAt P k key enc w' b M := by
  obtain ⟨D, h1, h2⟩ := h
  exact ⟨D, owns_fr h1 hf hb, h2⟩
theorem MapAt.fr0 (h : MapAt P k key enc w b M) (hf : Fr w w' Nil) : MapAt P k key enc w' b M := h.fr hf fun h => h
theorem MapAt.made (w : World) (P : Program) (k : TypeId) (key : κ → Lit) (enc : α → Value) : MapAt P k key enc (w.alloc (.map #[] 0)) w.heap.size [] := ⟨_, World.ownsMap_made w P k heldR, MapIs.nil key enc⟩
theorem turned_fr (h : w.mapTurned w' b) : Fr w w' (fun j => j = b) := by
  have g := h.grown
  exact ⟨g.os, g.tape, g.output, g.size, fun k hk hn => g.block k hk fun e => hn (by cases e; rfl)⟩
theorem grown_fr (g : w.grownBy w' (some b)) : Fr w w' (fun j => j = b) := ⟨g.os, g.tape, g.output, g.size, fun k hk hn => g.block k hk fun e => hn (by cases e; rfl)⟩
end

/-! ### at the operation -/
section
variable {κ α : Type} {P : Program} {key : κ → Lit} {enc : α → Value} (w : World) {ops : Array Oper} {rest : List Oper} {o : Oper} {a : Act} {Q : Exit → Act → World → Prop}
/-- What is got: the element, or the type's zero. -/
def getV [DecidableEq κ] (M : List (κ × α)) (x : κ) (z : α) : α := ((M.find? fun p => decide (p.1 = x)).map Prod.snd).getD z
theorem getV_mem [DecidableEq κ] {M : List (κ × α)} {x : κ} {v z : α} (hn : (M.map Prod.fst).Nodup) (h : (x, v) ∈ M) : getV M x z = v := by
  unfold getV
  cases hf : M.find? (fun p => decide (p.1 = x)) with
  | none =>
    have := List.find?_eq_none.1 hf _ h
    simp at this
  | some p =>
    have h1 := List.mem_of_find?_eq_some hf
    have h2 := List.find?_some hf
    simp only [decide_eq_true_eq] at h2
    have : p = (x, v) := by
      rw [List.nodup_iff_pairwise_ne, List.pairwise_map] at hn
      refine Classical.byContradiction fun hne => ?_
      rcases List.mem_iff_getElem.1 h1 with ⟨i, hi, rfl⟩
      rcases List.mem_iff_getElem.1 h with ⟨j, hj, hjx⟩
      have hij : i ≠ j := by intro e; subst e; exact hne hjx
      rw [List.pairwise_iff_getElem] at hn
      rcases Nat.lt_or_gt_of_ne hij with h3 | h3
      · exact hn i j hi hj h3 (by rw [h2, hjx])
      · exact hn j i hj hi h3 (by rw [h2, hjx])
    rw [this]; rfl
theorem getV_none [DecidableEq κ] {M : List (κ × α)} {x : κ} {z : α} (h : (M.map Prod.fst).contains x = false) : getV M x z = z := by
  unfold getV
  cases hf : M.find? (fun p => decide (p.1 = x)) with
  | none => rfl
  | some p =>
    have h1 := List.mem_of_find?_eq_some hf
    have h2 := List.find?_some hf
    simp only [decide_eq_true_eq] at h2
    subst h2
    rw [← Bool.not_eq_true, List.contains_iff_mem] at h
    exact absurd (List.mem_map.2 ⟨p, h1, rfl⟩) h
theorem MapIs.at_getV [DecidableEq κ] {D : DataW Value} {M : List (κ × α)} (h : MapIs key enc D M) (hk : KeyOk key) (x : κ) (z : α) : D.atKey (key x) (.held (enc z)) = .held (enc (getV M x z)) := by
  cases hc : (M.map Prod.fst).contains x with
  | false => rw [h.at_none hk hc, getV_none hc]
  | true =>
    obtain ⟨v, hv⟩ := h.mem hc
    rw [h.at hk hv, getV_mem h.nodup hv]
/-- 'v, ok := m[k]'. -/
theorem wpList_map_look [DecidableEq κ] (hg : o.guard = none) (m x : Operand) (t : TypeId) (hop : o.op = Op.lookup t m x true)
    (k e : TypeId) (K : Keyed P k) (ht : P.underlying t = some (.map k e)) {z : α} (hz : (zeroValue e).run P w = .ok (enc z) w) (hk : KeyOk key) (b : Nat) (M : List (κ × α))
    (hm : a.eval m = .map (some b)) (hown : MapAt P k key enc w b M) (kv : Value) (kx : κ) (hx : a.eval x = kv) (hkey : keyOf P k kv = some (key kx))
    (hK : wpList P ops Q rest (a.put o.dst (.tuple #[enc (getV M kx z), .bool ((M.map Prod.fst).contains kx)])) w) : wpList P ops Q (o :: rest) a w := by
  obtain ⟨D, h1, h2⟩ := hown
  refine wpList_lookup_own_ok w hg m x t hop k e K ht heldR hz (.held (enc z)) [] rfl b _ D hm h1 kv (key kx) hx hkey fun v ps hv => ?_
  have hv2 := heldR_inv hv
  rw [h2.at_getV hk] at hv2
  injection hv2 with hv2
  rw [← hv2, h2.has hk]
  exact hK
/-- .. what comes back under names of its own. -/
theorem wpList_map_lookb [DecidableEq κ] (hg : o.guard = none) (m x : Operand) (t : TypeId) (hop : o.op = Op.lookup t m x true)
    (k e : TypeId) (K : Keyed P k) (ht : P.underlying t = some (.map k e)) {z : α} (hz : (zeroValue e).run P w = .ok (enc z) w) (hk : KeyOk key) (b : Nat) (M : List (κ × α))
    (hm : a.eval m = .map (some b)) (hown : MapAt P k key enc w b M) (kv : Value) (kx : κ) (hx : a.eval x = kv) (hkey : keyOf P k kv = some (key kx)) (g : α) (hg2 : getV M kx z = g) (bo : Bool) (hb : (M.map Prod.fst).contains kx = bo)
    (hK : wpList P ops Q rest (a.put o.dst (.tuple #[enc g, .bool bo])) w) : wpList P ops Q (o :: rest) a w := by
  subst hg2; subst hb
  exact wpList_map_look w hg m x t hop k e K ht hz hk b M hm hown kv kx hx hkey hK
/-- 'm[k]'. -/
theorem wpList_map_get [DecidableEq κ] (hg : o.guard = none) (m x : Operand) (t : TypeId) (hop : o.op = Op.lookup t m x false)
    (k e : TypeId) (K : Keyed P k) (ht : P.underlying t = some (.map k e)) {z : α} (hz : (zeroValue e).run P w = .ok (enc z) w) (hk : KeyOk key) (b : Nat) (M : List (κ × α))
    (hm : a.eval m = .map (some b)) (hown : MapAt P k key enc w b M) (kv : Value) (kx : κ) (hx : a.eval x = kv) (hkey : keyOf P k kv = some (key kx))
    (hK : wpList P ops Q rest (a.put o.dst (enc (getV M kx z))) w) : wpList P ops Q (o :: rest) a w := by
  obtain ⟨D, h1, h2⟩ := hown
  obtain ⟨v, ps, hrun, hv⟩ := h1.lookup K ht hz (zd := .held (enc z)) (zp := []) rfl hkey
  have hv2 := heldR_inv hv
  rw [h2.at_getV hk] at hv2
  injection hv2 with hv2
  subst hv2
  refine wpList_plain hg fun K' hK' => ?_
  unfold Oper.wp
  simp [execOp, hop, hm, hx, hrun, Result.andThen]
  exact hK' _ _ hK
/-- 'delete(m, k)'. -/
theorem wpList_map_del [DecidableEq κ] (hg : o.guard = none) (m x : Operand) (t k : TypeId) (hop : o.op = Op.call { callee := Callee.builtin Builtin.delete, args := #[m, x], argTypes := #[t, k] })
    (e : TypeId) (K : Keyed P k) (ht : P.underlying t = some (.map k e)) (hk : KeyOk key) (b : Nat) (M : List (κ × α))
    (hm : a.eval m = .map (some b)) (hown : MapAt P k key enc w b M) (kv : Value) (kx : κ) (hx : a.eval x = kv) (hkey : keyOf P k kv = some (key kx))
    (hK : ∀ w1, MapAt P k key enc w1 b (M.filter fun p => !decide (p.1 = kx)) → Fr w w1 (fun j => j = b) → wpList P ops Q rest (a.put o.dst (.tuple #[])) w1) : wpList P ops Q (o :: rest) a w := by
  obtain ⟨D, h1, h2⟩ := hown
  obtain ⟨w1, hrun, h3, h4⟩ := h1.drop K ht hkey o.type
  refine wpList_plain hg fun K' hK' => ?_
  unfold Oper.wp execOp
  simp only [hop, resolve, invoke, builtin, Sem.run_bind, Sem.run_pure, Result.andThen_ok, List.map_toArray, List.map_cons, List.map_nil, hm, hx, hrun]
  exact hK' _ _ (hK w1 (.mk h3 (h2.del hk kx)) (turned_fr h4))
/-- 'm[k] = v'. -/
theorem wpList_map_set [DecidableEq κ] (hg : o.guard = none) (m x y : Operand) (t : TypeId) (hop : o.op = Op.mapUpdate t m x y)
    (k e : TypeId) (K : Keyed P k) (ht : P.underlying t = some (.map k e)) (hk : KeyOk key) (b : Nat) (M : List (κ × α)) (hl : M.length < maxLen)
    (hm : a.eval m = .map (some b)) (hown : MapAt P k key enc w b M) (kv : Value) (kx : κ) (hx : a.eval x = kv) (hkey : keyOf P k kv = some (key kx)) (v : α) (hv : a.eval y = enc v)
    (hK : ∀ w1, MapAt P k key enc w1 b ((M.filter fun p => !decide (p.1 = kx)) ++ [(kx, v)]) → Fr w w1 (fun j => j = b) → wpList P ops Q rest (a.put o.dst undef) w1) : wpList P ops Q (o :: rest) a w := by
  obtain ⟨D, h1, h2⟩ := hown
  obtain ⟨w1, hrun, h3, h4⟩ := h1.store K ht hl hkey (val := enc v) (d := .held (enc v)) (ps := []) rfl
  refine wpList_plain hg fun K' hK' => ?_
  unfold Oper.wp
  simp [execOp, hop, hm, hx, hv, hrun, Result.andThen]
  exact hK' _ _ (hK w1 (.mk h3 (h2.put hk kx v)) (turned_fr h4))
/-- .. at the operation itself. -/
theorem wp_map_set [DecidableEq κ] {Kk : Act → World → Prop} (m x y : Operand) (t : TypeId) (hop : o.op = Op.mapUpdate t m x y)
    (k e : TypeId) (K : Keyed P k) (ht : P.underlying t = some (.map k e)) (hk : KeyOk key) (b : Nat) (M : List (κ × α)) (hl : M.length < maxLen)
    (hm : a.eval m = .map (some b)) (hown : MapAt P k key enc w b M) (kv : Value) (kx : κ) (hx : a.eval x = kv) (hkey : keyOf P k kv = some (key kx)) (v : α) (hv : a.eval y = enc v)
    (hK : ∀ w1, MapAt P k key enc w1 b ((M.filter fun p => !decide (p.1 = kx)) ++ [(kx, v)]) → Fr w w1 (fun j => j = b) → Kk (a.put o.dst undef) w1) : o.wp P a w Kk Q := by
  obtain ⟨D, h1, h2⟩ := hown
  obtain ⟨w1, hrun, h3, h4⟩ := h1.store K ht hl hkey (val := enc v) (d := .held (enc v)) (ps := []) rfl
  unfold Oper.wp
  simp [execOp, hop, hm, hx, hv, hrun, Result.andThen]
  exact hK w1 (.mk h3 (h2.put hk kx v)) (turned_fr h4)
/-! ### ranging -/
/-- A range over the map of block b, block r: L is still to come. -/
def RangeAt (P : Program) (k : TypeId) (key : κ → Lit) (enc : α → Value) (w : World) (b r : Nat) (M L : List (κ × α)) : Prop :=
  ∃ D left cnt, w.ranges P k heldR b r M.length D left cnt ∧ MapIs key enc D M ∧ (∀ p ∈ M, left (key p.1) = true ↔ p ∈ L) ∧ (∀ p ∈ L, p ∈ M) ∧ L.Nodup
theorem RangeAt.map {k : TypeId} {w : World} {b r : Nat} {M L : List (κ × α)} (h : RangeAt P k key enc w b r M L) : MapAt P k key enc w b M := by
  obtain ⟨D, left, cnt, h1, h2, _⟩ := h
  exact ⟨D, h1.owns, h2⟩
theorem RangeAt.sub {k : TypeId} {w : World} {b r : Nat} {M L : List (κ × α)} (h : RangeAt P k key enc w b r M L) : ∀ p ∈ L, p ∈ M := by obtain ⟨_, _, _, _, _, _, h, _⟩ := h; exact h
theorem RangeAt.fr {k : TypeId} {w w' : World} {b r : Nat} {M L : List (κ × α)} {S : Nat → Prop} (h : RangeAt P k key enc w b r M L) (hf : Fr w w' S) (hb : ¬ S b) (hr : ¬ S r) : RangeAt P k key enc w' b r M L := by
  obtain ⟨D, left, cnt, h1, h2⟩ := h
  have hlt := h1.lt
  have hbl := h1.owns.lt
  refine ⟨D, left, cnt, ?_, h2⟩
  obtain ⟨es, clock, since, seen, c, e1, e2, e3, e4, e5, rest⟩ := h1
  exact ⟨es, clock, since, seen, c, (hf.block b hbl hb).trans e1, e2, e3, e4, (hf.block r hlt hr).trans e5, rest⟩
theorem RangeAt.left {k : TypeId} {w w' : World} {b r : Nat} {M L : List (κ × α)} {S : Nat → Prop} (h : RangeAt P k key enc w b r M L) (hf : Fr w w' S) (hb : ¬ S b) (hr : ¬ S r) : w'.rangeLeft b r = w.rangeLeft b r := by
  obtain ⟨D, left, cnt, h1, h2⟩ := h
  unfold World.rangeLeft
  rw [hf.block b h1.owns.lt hb, hf.block r h1.lt hr]
theorem RangeAt.fr0 {k : TypeId} {w w' : World} {b r : Nat} {M L : List (κ × α)} (h : RangeAt P k key enc w b r M L) (hf : Fr w w' Nil) : RangeAt P k key enc w' b r M L := h.fr hf (fun h => h) fun h => h
theorem RangeAt.lt {k : TypeId} {w : World} {b r : Nat} {M L : List (κ × α)} (h : RangeAt P k key enc w b r M L) : r < w.heap.size := by
  obtain ⟨D, left, cnt, h1, _⟩ := h; exact h1.lt
theorem wpList_map_range [DecidableEq κ] (hg : o.guard = none) (m : Operand) (t : TypeId) (hop : o.op = Op.range t m) (k e : TypeId) (K : Keyed P k) (ht : P.underlying t = some (.map k e)) (hk : KeyOk key) (b : Nat) (M : List (κ × α))
    (hm : a.eval m = .map (some b)) (hown : MapAt P k key enc w b M)
    (hK : ∀ w', RangeAt P k key enc w' b w.heap.size M M → Fr w w' Nil → w'.heap.size = w.heap.size + 1 → wpList P ops Q rest (a.put o.dst (.pointer (some ⟨w.heap.size, 0, none⟩))) w') : wpList P ops Q (o :: rest) a w := by
  obtain ⟨D, h1, h2⟩ := hown
  refine wpList_range_own w hg m t hop k e K ht heldR b _ D hm h1 fun w' r1 r2 r3 => hK w' ⟨D, _, _, r1, h2, fun p hp => ?_, fun _ h => h, ?_⟩ ⟨r2.os, r2.tape, r2.output, r2.size, fun j hj _ => r2.block j hj (by simp)⟩ r3
  · rw [h2.has hk, List.contains_iff_mem]
    exact ⟨fun _ => hp, fun _ => List.mem_map.2 ⟨p, hp, rfl⟩⟩
  · have := h2.nodup
    rw [List.nodup_iff_pairwise_ne, List.pairwise_map] at this
    exact List.nodup_iff_pairwise_ne.2 (this.imp fun h e => h (by rw [e]))
theorem wpList_map_next [DecidableEq κ] (hg : o.guard = none) (it : Operand) (hop : o.op = Op.next it false) (k : TypeId) (K : Keyed P k) (hk : KeyOk key) (mkK : κ → Value)
    (inv : ∀ v kl, keyOf P k v = some kl → ∃ x, v = mkK x ∧ kl = key x) (b r : Nat) (M L : List (κ × α))
    (hit : a.eval it = .pointer (some ⟨r, 0, none⟩)) (h : RangeAt P k key enc w b r M L)
    (hDone : L = [] → wpList P ops Q rest (a.put o.dst (.tuple #[.bool false])) w)
    (hMore : ∀ (x : κ) (c : α) (A B : List (κ × α)) (w' : World), L = A ++ (x, c) :: B → RangeAt P k key enc w' b r M (A ++ B) → Fr w w' (fun j => j = r) → w'.heap.size = w.heap.size → w'.rangeLeft b r < w.rangeLeft b r →
      (Instr.entry (.pointer (some ⟨r, 0, none⟩))).run P w' = .ok (.tuple #[mkK x, enc c]) w' → wpList P ops Q rest (a.put o.dst (.tuple #[.bool true, mkK x, enc c])) w') : wpList P ops Q (o :: rest) a w := by
  obtain ⟨D, left, cnt, h1, h2, h3, h4, h5⟩ := h
  refine wpList_plain hg fun K' hK' => ?_
  unfold Oper.wp
  rcases h1.next K o.type with ⟨h0, hl0, hrun⟩ | ⟨kv, v, kl, y, w', cnt', hkey, hlk, hv, hat, hrun, hrg, hlt, hgr, hsz2, hen⟩
  · simp [execOp, hop, hit, hrun, Result.andThen]
    exact hK' _ _ (hDone (List.eq_nil_iff_forall_not_mem.2 fun p hp => by have := (h3 p (h4 p hp)).2 hp; rw [hl0] at this; cases this))
  · obtain ⟨x, rfl, rfl⟩ := inv kv kl hkey
    have hhas : Maps.has D (key x) = true := by
      refine Classical.byContradiction fun hn => ?_
      have h6 := atKey_of_not_has (by simpa using hn) DataW.nil
      have h7 := hat DataW.nil
      rw [h6] at h7
      have h8 := heldR_inv (v := v) (d := y.1) (ps := y.2) (by rw [hv])
      rw [h8] at h7; cases h7
    rw [h2.has hk] at hhas
    obtain ⟨c, hc⟩ := h2.mem hhas
    have hvc : v = enc c := by
      have h6 := hat DataW.nil
      rw [h2.at hk hc, heldR_inv (v := v) (d := y.1) (ps := y.2) (by rw [hv])] at h6
      injection h6 with h6
      exact h6.symm
    subst hvc
    have hcL : (x, c) ∈ L := (h3 _ hc).1 hlk
    obtain ⟨A, B, rfl⟩ := List.append_of_mem hcL
    have hABn : (A ++ B).Nodup ∧ (x, c) ∉ A ++ B := by
      have := (List.perm_middle (a := (x, c)) (l₁ := A) (l₂ := B)).nodup_iff.1 h5
      have := List.nodup_cons.1 this
      exact ⟨this.2, this.1⟩
    have hkn : ∀ p ∈ M, p.1 = x → p = (x, c) := by
      intro p hp e
      have hn := h2.nodup
      rw [List.nodup_iff_pairwise_ne, List.pairwise_map] at hn
      refine Classical.byContradiction fun hne => ?_
      rcases List.mem_iff_getElem.1 hp with ⟨i, hi, rfl⟩
      rcases List.mem_iff_getElem.1 hc with ⟨j, hj, hjx⟩
      have hij : i ≠ j := by intro e; subst e; exact hne hjx
      rw [List.pairwise_iff_getElem] at hn
      rcases Nat.lt_or_gt_of_ne hij with h7 | h7
      · exact hn i j hi hj h7 (by rw [e, hjx])
      · exact hn j i hj hi h7 (by rw [e, hjx])
    have hleft : ∀ p ∈ M, ((left (key p.1) && !(key p.1).sameKey (key x)) = true ↔ p ∈ A ++ B) := by
      intro p hp
      rw [Bool.and_eq_true, h3 p hp, Bool.not_eq_true', List.mem_append, List.mem_append, List.mem_cons]
      constructor
      · rintro ⟨h6 | h6 | h6, h7⟩
        · exact .inl h6
        · subst h6
          have := (hk.same x x).2 rfl
          rw [this] at h7; cases h7
        · exact .inr h6
      · intro h6
        refine ⟨h6.imp id .inr, hk.same_false fun e => ?_⟩
        rw [hkn p hp e] at h6
        exact hABn.2 (List.mem_append.2 h6)
    simp [execOp, hop, hit, hrun, Result.andThen]
    refine hK' _ _ (hMore x c A B w' rfl ⟨D, _, cnt', hrg, h2, hleft, fun p hp => h4 p (by rcases List.mem_append.1 hp with hp | hp; exact List.mem_append.2 (.inl hp); exact List.mem_append.2 (.inr (List.mem_cons_of_mem _ hp))), hABn.1⟩ ?_ hsz2 (by rw [hrg.left_eq, h1.left_eq]; exact hlt) hen)
    exact ⟨hgr.os, hgr.tape, hgr.output, hgr.size, fun j hj hn => hgr.block j hj fun e => hn (by cases e; rfl)⟩
end
end Go.Proofs.YtokeciekncincabGreat
