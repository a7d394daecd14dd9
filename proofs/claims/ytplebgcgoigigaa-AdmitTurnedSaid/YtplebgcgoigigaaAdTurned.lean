/-
  The walk of AdmitTurned: it answers true.
  No condition.
-/
import Derived.Test.YtplebgcgoigigaaAdMore
namespace Go.Proofs.Ytplebgcgoigigaa
open Go Go.RowKit Go.Maps Go.Shelf

def elemT (l : List Nd) (i : Nat) : Int × Nd := ((i : Int), l.getD i zeroN)
def listT (l : List Nd) (k : Nat) : List (Int × Nd) := (List.range k).map (elemT l)
def turnT (n k j : Nat) : Nat := (n - 1 - j + k) % n
def backT (l : List Nd) (k j : Nat) : List (Int × Nd) := (List.range j).map fun t => elemT l (turnT l.length k t)
theorem listT_succ (l : List Nd) (k : Nat) : listT l (k + 1) = listT l k ++ [elemT l k] := by simp [listT, List.range_succ]
theorem backT_succ (l : List Nd) (k j : Nat) : backT l k (j + 1) = backT l k j ++ [elemT l (turnT l.length k j)] := by simp [backT, List.range_succ]
theorem turnT_lt {n k j : Nat} (h : 0 < n) : turnT n k j < n := Nat.mod_lt _ h
theorem mod_two {y n : Nat} (h : y < 2 * n) : y % n = if y < n then y else y - n := by
  split
  · exact Nat.mod_eq_of_lt (by assumption)
  · rw [Nat.mod_eq_sub_mod (by omega), Nat.mod_eq_of_lt (by omega)]
theorem turn_perm {n k : Nat} (hk : k < n) : ((List.range n).map (turnT n k)).Perm (List.range n) := by
  have hn : ((List.range n).map (turnT n k)).Nodup := by
    rw [List.nodup_iff_pairwise_ne, List.pairwise_map]
    refine (List.nodup_iff_pairwise_ne.1 List.nodup_range).imp_of_mem fun {a b} ha hb hne e => hne ?_
    have ha := List.mem_range.1 ha
    have hb := List.mem_range.1 hb
    unfold turnT at e
    rw [mod_two (by omega), mod_two (by omega)] at e
    split at e <;> split at e <;> omega
  refine (List.perm_ext_iff_of_nodup hn List.nodup_range).2 fun a => ?_
  rw [List.mem_map, List.mem_range]
  constructor
  · rintro ⟨j, _, rfl⟩; exact turnT_lt (by omega)
  · intro ha
    refine ⟨(n - 1 + k - a) % n, List.mem_range.2 (Nat.mod_lt _ (by omega)), ?_⟩
    unfold turnT
    rw [mod_two (y := n - 1 + k - a) (by omega)]
    split
    · rw [mod_two (by omega)]; split <;> omega
    · rw [mod_two (by omega)]; split <;> omega
theorem back_perm {l : List Nd} {k : Nat} (hk : k < l.length) : (backT l k l.length).Perm (listT l l.length) := by
  have := (turn_perm hk).map (elemT l)
  rw [List.map_map] at this
  exact this
theorem enter_yes {c : CapD} {M : List (Int × Nd)} {x : Int} {n : Nd} (h : enterC c M x n = 0) : hasK M x = false ∧ mayP c M n = true ∧ enterM c M x n = M ++ [(x, n)] := by
  unfold enterC at h
  split at h
  · cases h
  · rename_i h1
    split at h
    · rename_i h2
      simp only [Bool.or_eq_true, not_or, Bool.not_eq_true] at h1
      refine ⟨h1.1, h2, ?_⟩
      unfold enterM
      rw [h1.1, h1.2, if_neg (by simp), if_pos h2]
    · cases h
theorem enter_ok {c : CapD} {M : List (Int × Nd)} {x : Int} {n : Nd} (h1 : hasK M x = false) (h2 : mayP c M n = true) : enterC c M x n = 0 ∧ enterM c M x n = M ++ [(x, n)] := by
  have h3 : n.may = true := by
    unfold mayP at h2
    simp only [Bool.and_eq_true] at h2
    exact h2.1.1
  unfold enterC enterM
  rw [h1, h3, h2]
  simp
/-- Some of those that are in together, and one more of them. -/
theorem enter_part {c : CapD} {T A R : List (Int × Nd)} {x : Int} {n : Nd} (h : Inv c T) (hp : (A ++ (x, n) :: R).Perm T) : Inv c A ∧ enterC c A x n = 0 ∧ enterM c A x n = A ++ [(x, n)] := by
  have hI := h.perm hp.symm
  have hs : A.Sublist (A ++ (x, n) :: R) := List.sublist_append_left _ _
  have hnl := fun (p : Nd → Int) (B : List (Int × Nd)) => sumP_app p A B
  have hr1 : 0 ≤ sumP Nd.l R := sumP_nonneg fun p hp => (Nd.may_iff.1 (hI.each p (by simp [hp])).1).2.1.1
  have hr2 : 0 ≤ sumP Nd.u R := sumP_nonneg fun p hp => (Nd.may_iff.1 (hI.each p (by simp [hp])).1).2.2.1
  have hn := hI.each (x, n) (by simp)
  have hnm := (Nd.may_iff (n := n)).1 hn.1
  have h1 : sumP Nd.l A + (n.l + sumP Nd.l R) ≤ c.l := by have := hI.l; rw [sumP_app] at this; exact this
  have h2 : sumP Nd.u A + (n.u + sumP Nd.u R) ≤ c.u := by have := hI.u; rw [sumP_app] at this; exact this
  have h3 : (A.length : Int) + 1 + R.length ≤ c.n := by have := hI.n; simp at this; omega
  have hA : Inv c A := ⟨h.caps, fun p hp => hI.each p (hs.mem hp), by omega, by omega, by omega, hI.apart.sublist hs, (hs.map _).nodup hI.keys⟩
  have hpw := List.pairwise_append.1 hI.apart
  have hkn : hasK A x = false := by
    unfold hasK
    rw [← Bool.not_eq_true, List.contains_iff_mem]
    intro hm
    have := hI.keys
    rw [List.map_append, List.nodup_append] at this
    exact this.2.2 x hm x (by simp) rfl
  have hm : mayP c A n = true := hA.may.2 ⟨hn.1, fun p hp => by
    rw [← Bool.not_eq_true, clash_iff]
    exact hpw.2.2 p hp (x, n) (by simp), by omega, by omega, by omega⟩
  exact ⟨hA, enter_ok hkn hm⟩
theorem back_step {c : CapD} {l : List Nd} {k j : Nat} (h : Inv c (listT l l.length)) (hk : k < l.length) (hj : j < l.length) : Inv c (backT l k j) ∧ enterC c (backT l k j) (turnT l.length k j : Int) (l.getD (turnT l.length k j) zeroN) = 0 ∧
    enterM c (backT l k j) (turnT l.length k j : Int) (l.getD (turnT l.length k j) zeroN) = backT l k (j + 1) := by
  have hsp : backT l k l.length = backT l k j ++ elemT l (turnT l.length k j) :: (backT l k l.length).drop (j + 1) := by
    have hl : (backT l k l.length).length = l.length := by simp [backT]
    have h1 := List.take_append_drop j (backT l k l.length)
    have h2 : (backT l k l.length).take j = backT l k j := by
      unfold backT
      rw [← List.map_take, List.take_range, Nat.min_eq_left (by omega)]
    have h3 : (backT l k l.length).drop j = elemT l (turnT l.length k j) :: (backT l k l.length).drop (j + 1) := by
      rw [List.drop_eq_getElem_cons (by omega)]
      congr 1
      simp [backT]
    rw [← h3, ← h2, h1]
  have h2 := enter_part (A := backT l k j) (R := (backT l k l.length).drop (j + 1)) (x := (turnT l.length k j : Int)) (n := l.getD (turnT l.length k j) zeroN) h (by rw [← show elemT l (turnT l.length k j) = ((turnT l.length k j : Int), l.getD (turnT l.length k j) zeroN) from rfl, ← hsp]; exact back_perm hk)
  exact ⟨h2.1, h2.2.1, by rw [h2.2.2, backT_succ]; rfl⟩
theorem get_perm {M T : List (Int × Nd)} {x : Int} {n : Nd} (hp : M.Perm T) (hk : (T.map Prod.fst).Nodup) (hm : (x, n) ∈ T) : getV M x zeroN = n ∧ hasK M x = true :=
  ⟨getV_mem ((hp.map _).nodup_iff.2 hk) (hp.mem_iff.2 hm), hasK_iff.2 ⟨n, hp.mem_iff.2 hm⟩⟩
theorem listT_mem {l : List Nd} {i : Nat} (hi : i < l.length) : ((i : Int), l[i]) ∈ listT l l.length := by
  refine List.mem_map.2 ⟨i, List.mem_range.2 hi, ?_⟩
  simp [elemT, List.getD_eq_getElem?_getD, hi]
theorem keys_of_perm {M T : List (Int × Nd)} (hp : M.Perm T) : keysOf M = keysOf T := Go.mergeSort_of_perm_i (hp.map _)
theorem room_of_perm {c : CapD} {M T : List (Int × Nd)} (hp : M.Perm T) : roomOf c M = roomOf c T := by
  unfold roomOf
  rw [sumP_perm _ hp, sumP_perm _ hp, sumP_perm _ hp]
theorem listT_len (l : List Nd) (k : Nat) : (listT l k).length = k := by simp [listT]
theorem backT_len (l : List Nd) (k j : Nat) : (backT l k j).length = j := by simp [backT]
theorem need_cells {w : World} {b off : Nat} {l : List Nd} (h : ∀ i t, l[i]? = some t → ∀ j u, t.vals[j]? = some u → w.cell? ⟨b, off + i * 4 + j, none⟩ = some u) {i : Nat} {t : Nd} (ht : l[i]? = some t) :
    w.cell? ⟨b, off + i * 4, none⟩ = some (.int .i64 t.proc) ∧ w.cell? ⟨b, off + i * 4 + 1, none⟩ = some (.bool t.single) ∧ w.cell? ⟨b, off + i * 4 + 2, none⟩ = some (.int .i64 t.l) ∧ w.cell? ⟨b, off + i * 4 + 3, none⟩ = some (.int .i64 t.u) :=
  ⟨h i t ht 0 _ rfl, h i t ht 1 _ rfl, h i t ht 2 _ rfl, h i t ht 3 _ rfl⟩
theorem wf_nat (k : Nat) (h : k ≤ 1000000) : (Lit.int .i64 (k : Int)).wf = true := by
  simp [Lit.wf, IntKind.min, IntKind.max, IntKind.signed, IntKind.bits]; omega
end Go.Proofs.Ytplebgcgoigigaa
