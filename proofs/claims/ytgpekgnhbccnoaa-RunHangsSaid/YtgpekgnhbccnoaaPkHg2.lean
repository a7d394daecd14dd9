/-
  One more row of zeros, laid table by table; a row of cells that is written over, piece by piece.
  No condition.
-/
import Derived.Test.YtgpekgnhbccnoaaPkHg1
import Derived.Test.YtgpekgnhbccnoaaPkLk44
namespace Go.Proofs.Ytgpekgnhbccnoaa
open Go Go.RowKit

theorem mget_nil (n : Nat) (k : Int) : mget (n, []) k = none := rfl
theorem none77_new (cols : List Int) : None77 (newMod cols) := fun T hT => by
  simp only [newMod, List.mem_map] at hT
  obtain ⟨n, _, rfl⟩ := hT
  rfl
theorem none77_fillK {M : List MTab} (h : None77 M) (n t : Nat) : ∀ k, None77 (fillK n t M k)
  | 0 => h
  | k + 1 => none77_put (none77_fillK h n t k) (by omega) _
theorem none77_fillT (TB : List Int) (m : Nat) : ∀ t, None77 (fillT TB m t)
  | 0 => none77_new TB
  | t + 1 => none77_fillK (none77_fillT TB m t) _ _ _
def H77To (M : List MTab) (t : Nat) : List MTab := (M.take t).map h77 ++ M.drop t
theorem H77To_zero (M : List MTab) : H77To M 0 = M := by simp [H77To]
theorem H77To_all {M : List MTab} {t : Nat} (h : M.length ≤ t) : H77To M t = H77 M := by
  unfold H77To H77
  rw [List.take_of_length_le h, List.drop_of_length_le h, List.append_nil]
theorem H77To_len (M : List MTab) (t : Nat) : (H77To M t).length = M.length := by
  unfold H77To
  rw [List.length_append, List.length_map, List.length_take, List.length_drop]
  omega
theorem H77To_put {M : List MTab} (hg : Good M) {t n : Nat} (ht : t < M.length) (hn : (mtab M (t : Int)).1 = n) : mput (H77To M t) t (-77) (List.replicate n 0) = (H77To M (t + 1), 0) := by
  have hT : M[t]? = some M[t] := List.getElem?_eq_getElem ht
  have e0 : mtab M (t : Int) = M[t] := by unfold mtab; rw [if_pos (by omega), Int.toNat_natCast, hT]; rfl
  have hl : ((M.take t).map h77).length = t := by rw [List.length_map, List.length_take]; omega
  have e1 : mtab (H77To M t) (t : Int) = M[t] := by
    unfold mtab H77To
    rw [if_pos (by omega), Int.toNat_natCast, List.getElem?_append_right (by omega), hl, Nat.sub_self, List.getElem?_drop, Nat.add_zero, hT]
    rfl
  have h1 := (hg.tabs _ (List.getElem_mem ht)).2
  rw [e0] at hn
  unfold mput
  rw [e1, if_neg (by rw [List.length_replicate, hn]; omega), Int.toNat_natCast]
  congr 1
  unfold H77To
  rw [List.set_append_right _ _ (by omega), hl, Nat.sub_self, List.drop_eq_getElem_cons ht, List.set_cons_zero]
  rw [List.take_succ_eq_append_getElem ht, List.map_append, List.append_assoc, ← hn]
  rfl
theorem H77To_good {M : List MTab} {N : Nat} (hg : Good M) (hf : Few N M) (hN : N < 1000000) (t : Nat) : Good (H77To M t) ∧ Few (N + 1) (H77To M t) := by
  have h := H77_good hg hf hN
  have hm : ∀ T ∈ H77To M t, T ∈ H77 M ∨ T ∈ M := fun T hT => by
    unfold H77To at hT
    rw [List.mem_append] at hT
    rcases hT with hT | hT
    · obtain ⟨U, hU, rfl⟩ := List.mem_map.1 hT
      exact .inl (List.mem_map.2 ⟨U, List.mem_of_mem_take hU, rfl⟩)
    · exact .inr (List.mem_of_mem_drop hT)
  refine ⟨⟨fun T hT => (hm T hT).elim (h.1.tabs T) (hg.tabs T), by rw [H77To_len]; exact hg.few⟩, fun T hT => (hm T hT).elim (h.2 T) fun hT => Nat.le_succ_of_le (hf T hT)⟩
/-- Cells written over from a place on. -/
def setAt (cs : List Value) (o : Nat) : List Value → List Value
  | [] => cs
  | v :: vs => setAt (cs.set o v) (o + 1) vs
theorem setAt_len : ∀ (vs : List Value) (cs : List Value) (o : Nat), (setAt cs o vs).length = cs.length
  | [], _, _ => rfl
  | v :: vs, cs, o => by rw [setAt, setAt_len vs]; simp
theorem setAt_out : ∀ (vs : List Value) (cs : List Value) (o k : Nat), k < o ∨ o + vs.length ≤ k → (setAt cs o vs)[k]? = cs[k]?
  | [], _, _, _, _ => rfl
  | v :: vs, cs, o, k, h => by
    rw [List.length_cons] at h
    rw [setAt, setAt_out vs _ _ _ (by omega), List.getElem?_set_ne (by omega)]
theorem setAt_in : ∀ (vs : List Value) (cs : List Value) (o j : Nat), j < vs.length → o + vs.length ≤ cs.length → (setAt cs o vs)[o + j]? = vs[j]?
  | [], _, _, j, h, _ => by simp at h
  | v :: vs, cs, o, 0, _, h2 => by
    rw [List.length_cons] at h2
    rw [setAt, setAt_out vs _ _ _ (by omega), Nat.add_zero, List.getElem?_set_self (by omega)]
    rfl
  | v :: vs, cs, o, j + 1, h1, h2 => by
    rw [List.length_cons] at h1 h2
    have := setAt_in vs (cs.set o v) (o + 1) j (by omega) (by rw [List.length_set]; omega)
    rw [setAt, show o + (j + 1) = o + 1 + j by omega, this]
    rfl
/-- The first i of a row of instructions' cells are these instructions. -/
def OwnCs (w : World) (L : List InstrD) (cs : List Value) (i : Nat) : Prop := L.length * 13 ≤ cs.length ∧ ∀ (m : Nat) (n : InstrD), m < i → L[m]? = some n → ∃ kv vv, (∀ j u, (n.cs kv vv)[j]? = some u → cs[m * 13 + j]? = some u) ∧ TermsAt w kv n.key ∧ ValsAt w vv n.vals
theorem OwnCs.zero {w : World} {L : List InstrD} {cs : List Value} (h : L.length * 13 ≤ cs.length) : OwnCs w L cs 0 := ⟨h, fun m n hm => by omega⟩
theorem OwnCs.succ {w : World} {L : List InstrD} {cs : List Value} {i : Nat} (h : OwnCs w L cs i) {n : InstrD} (hn : L[i]? = some n) {kv vv : Value} (hk : TermsAt w kv n.key) (hv : ValsAt w vv n.vals) : OwnCs w L (setAt cs (i * 13) (n.cs kv vv)) (i + 1) := by
  have hl : (n.cs kv vv).length = 13 := rfl
  have hi := (List.getElem?_eq_some_iff.1 hn).1
  have h1 := h.1
  refine ⟨by rw [setAt_len]; exact h.1, fun m n' hm hn' => ?_⟩
  by_cases e : m = i
  · subst e
    rw [hn] at hn'
    cases hn'
    refine ⟨kv, vv, fun j u hu => ?_, hk, hv⟩
    have hj := (List.getElem?_eq_some_iff.1 hu).1
    rw [setAt_in _ _ _ _ hj (by omega)]
    exact hu
  · obtain ⟨kv', vv', h2, h3⟩ := h.2 m n' (by omega) hn'
    refine ⟨kv', vv', fun j u hu => ?_, h3⟩
    have hj := (List.getElem?_eq_some_iff.1 hu).1
    have hj' : j < 13 := hj
    rw [setAt_out _ _ _ _ (.inl (by omega))]
    exact h2 j u hu
theorem OwnCs.code {w w' : World} {L : List InstrD} {cs : List Value} {b cap : Nat} {e : TypeId} (h : OwnCs w L cs L.length) (hb : Bk w' b e cs) (hf : Fr w w' Nil) : CodeAt w' (.slice (some ⟨b, 0, none⟩) L.length cap) L := by
  refine ⟨_, cap, rfl, .inr ⟨b, 0, rfl, fun i n hn => ?_⟩⟩
  obtain ⟨kv, vv, h1, h2, h3⟩ := h.2 i n (List.getElem?_eq_some_iff.1 hn).1 hn
  refine ⟨kv, vv, fun j u hu => ?_, h2.fr0 hf, h3.fr0 hf⟩
  rw [Nat.zero_add, hb.cell]
  exact h1 j u hu
section
variable {w0 W : World} {l : List Thing}
theorem Lies.bkSet (h : Lies w0 W l) (m : Nat) {b : Nat} {e : TypeId} {cs cs' : List Value} (hm : l[m]? = some (bkT b e cs)) {W' : World} (hb : Bk W' b e cs') (hf : Fr W W' (fun k => k = b)) : Lies w0 W' (l.set m (bkT b e cs')) := by
  obtain ⟨S, h1, _, h2⟩ := h.get m _ hm
  exact h2 W' S (bkT b e cs') ⟨hb, h1.2⟩ (fun k hk => .inl hk) (hf.mono fun k _ e => (h1.2 k).2 e)
/-- Thirteen cells of a block. -/
theorem set13_world {P : World → Prop} {w : World} {b o : Nat} {e : TypeId} {cs : List Value} (h : Bk w b e cs) {v0 v1 v2 v3 v4 v5 v6 v7 v8 v9 v10 v11 v12 : Value}
    (hP : ∀ w', Bk w' b e (setAt cs o [v0, v1, v2, v3, v4, v5, v6, v7, v8, v9, v10, v11, v12]) → Fr w w' (fun k => k = b) → P w') :
    P (((((((((((((w.setCell ⟨b, o, none⟩ v0).setCell ⟨b, o + 1, none⟩ v1).setCell ⟨b, o + 2, none⟩ v2).setCell ⟨b, o + 3, none⟩ v3).setCell ⟨b, o + 4, none⟩ v4).setCell ⟨b, o + 5, none⟩ v5).setCell ⟨b, o + 6, none⟩ v6).setCell ⟨b, o + 7, none⟩ v7).setCell ⟨b, o + 8, none⟩ v8).setCell ⟨b, o + 9, none⟩ v9).setCell ⟨b, o + 10, none⟩ v10).setCell ⟨b, o + 11, none⟩ v11).setCell ⟨b, o + 12, none⟩ v12) := by
  refine hP _ (((((((((((((h.set o v0).set (o + 1) v1).set (o + 2) v2).set (o + 3) v3).set (o + 4) v4).set (o + 5) v5).set (o + 6) v6).set (o + 7) v7).set (o + 8) v8).set (o + 9) v9).set (o + 10) v10).set (o + 11) v11).set (o + 12) v12) ?_
  iterate 13 refine Fr.setCell (S := fun k => k = b) (p := ⟨b, _, none⟩) ?_ (fun _ => rfl) _
  exact Fr.refl w _
theorem Bk.has {w : World} {b : Nat} {e : TypeId} {cs : List Value} (h : Bk w b e cs) {k : Nat} (hk : k < cs.length) : ∃ u, w.cell? ⟨b, k, none⟩ = some u := ⟨cs[k], by rw [h.cell, List.getElem?_eq_getElem hk]⟩
end
end Go.Proofs.Ytgpekgnhbccnoaa
