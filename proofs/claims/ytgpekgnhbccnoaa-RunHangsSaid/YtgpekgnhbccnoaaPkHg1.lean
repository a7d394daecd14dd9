/-
  Tables with one more row of zeros in each, that nobody names: all goes the same way.
  No condition.
-/
import Derived.Test.YtgpekgnhbccnoaaPkLk38
import Derived.Test.YtgpekgnhbccnoaaPkLk28
namespace Go.Proofs.Ytgpekgnhbccnoaa
open Go Go.RowKit

def h77 (T : MTab) : MTab := T.put (-77) (List.replicate T.1 0)
def H77 (M : List MTab) : List MTab := M.map h77
def None77 (M : List MTab) : Prop := ∀ T ∈ M, mget T (-77) = none
theorem h77_fst (T : MTab) : (h77 T).1 = T.1 := rfl
theorem h77_sorted {T : MTab} (h : T.2.Pairwise fun a b => a.1 < b.1) (k : Int) (xs : List Int) : (T.put k xs).2.Pairwise fun a b => a.1 < b.1 := by
  show List.Pairwise _ (T.2.filter (fun r => decide (r.1 < k)) ++ (k, xs) :: T.2.filter (fun r => decide (k < r.1)))
  rw [List.pairwise_append, List.pairwise_cons]
  refine ⟨h.filter _, ⟨fun r hr => by simpa using (List.mem_filter.1 hr).2, h.filter _⟩, fun a ha b hb => ?_⟩
  have ha' : a.1 < k := by simpa using (List.mem_filter.1 ha).2
  rw [List.mem_cons] at hb
  rcases hb with rfl | hb
  · exact ha'
  · have : k < b.1 := by simpa using (List.mem_filter.1 hb).2
    omega
theorem set_sorted {T : MTab} (h : T.2.Pairwise fun a b => a.1 < b.1) (k : Int) (c : Nat) (x : Int) : (T.set k c x).2.Pairwise fun a b => a.1 < b.1 := by
  show List.Pairwise _ (T.2.map _)
  rw [List.pairwise_map]
  have hk : ∀ r : Int × List Int, (if r.1 = k then (r.1, r.2.set c x) else r).1 = r.1 := fun r => by split <;> rfl
  refine h.imp fun {a b} hab => ?_
  rw [hk, hk]; exact hab
theorem tab77_ext {T U : MTab} (hT : T.2.Pairwise fun a b => a.1 < b.1) (hU : U.2.Pairwise fun a b => a.1 < b.1) (h1 : T.1 = U.1) (h : ∀ k, mget T k = mget U k) : T = U :=
  Prod.ext h1 (rows_ext hT hU h)
theorem mget_put (T : MTab) (k key : Int) (xs : List Int) : mget (T.put k xs) key = if k = key then some xs else mget T key := by
  by_cases e : k = key
  · subst e; rw [if_pos rfl, mget_put_self]
  · rw [if_neg e, mget_put_other T e]
theorem mget_del (T : MTab) (k key : Int) : mget (T.del k) key = if k = key then none else mget T key := by
  by_cases e : k = key
  · subst e; rw [if_pos rfl, mget_del_self]
  · rw [if_neg e, mget_del_other T e]
theorem find_map_set {l : List (Int × List Int)} {k : Int} {c : Nat} {x : Int} : ((l.map fun r => if r.1 = k then (r.1, r.2.set c x) else r).find? fun r => r.1 == k).map (·.2) = ((l.find? fun r => r.1 == k).map (·.2)).map fun xs => xs.set c x := by
  induction l with
  | nil => rfl
  | cons r l ih =>
    by_cases e : r.1 = k
    · simp [e]
    · simp only [List.map_cons, if_neg e]
      rw [List.find?_cons_of_neg (by simpa using e), List.find?_cons_of_neg (by simpa using e)]
      exact ih
theorem mget_set (T : MTab) (k key : Int) (c : Nat) (x : Int) : mget (T.set k c x) key = if k = key then (mget T key).map fun xs => xs.set c x else mget T key := by
  by_cases e : k = key
  · subst e; rw [if_pos rfl]; exact find_map_set
  · rw [if_neg e, mget_set_other T e]
theorem h77_put {T : MTab} (h : T.2.Pairwise fun a b => a.1 < b.1) {k : Int} (hk : k ≠ -77) (xs : List Int) : (h77 T).put k xs = h77 (T.put k xs) := by
  refine tab77_ext (h77_sorted (h77_sorted h _ _) _ _) (h77_sorted (h77_sorted h _ _) _ _) rfl fun key => ?_
  have e : (T.put k xs).1 = T.1 := rfl
  unfold h77
  rw [mget_put, mget_put, mget_put, mget_put, e]
  by_cases e1 : k = key
  · subst e1; rw [if_pos rfl, if_neg (by omega), if_pos rfl]
  · rw [if_neg e1, if_neg e1]
theorem h77_del {T : MTab} (h : T.2.Pairwise fun a b => a.1 < b.1) {k : Int} (hk : k ≠ -77) : (h77 T).del k = h77 (T.del k) := by
  refine tab77_ext ((h77_sorted h _ _).filter _) (h77_sorted (h.filter _) _ _) rfl fun key => ?_
  have e : (T.del k).1 = T.1 := rfl
  unfold h77
  rw [mget_del, mget_put, mget_put, mget_del, e]
  by_cases e1 : k = key
  · subst e1; rw [if_pos rfl, if_neg (by omega), if_pos rfl]
  · rw [if_neg e1, if_neg e1]
theorem h77_set {T : MTab} (h : T.2.Pairwise fun a b => a.1 < b.1) {k : Int} (hk : k ≠ -77) (c : Nat) (x : Int) : (h77 T).set k c x = h77 (T.set k c x) := by
  refine tab77_ext (set_sorted (h77_sorted h _ _) _ _ _) (h77_sorted (set_sorted h _ _ _) _ _) rfl fun key => ?_
  have e : (T.set k c x).1 = T.1 := rfl
  unfold h77
  rw [mget_set, mget_put, mget_put, mget_set, e]
  by_cases e1 : k = key
  · subst e1; rw [if_pos rfl, if_neg (by omega), if_neg (by omega), if_pos rfl]
  · rw [if_neg e1, if_neg e1]
theorem h77_get (T : MTab) {k : Int} (hk : k ≠ -77) : mget (h77 T) k = mget T k := by
  unfold h77
  rw [mget_put, if_neg (by omega)]
theorem colSum_app (a b : List (Int × List Int)) (c : Nat) : colSum (a ++ b) c = colSum a c + colSum b c := by
  unfold colSum
  rw [List.map_append, List.sum_append]
theorem colSum_parts {l : List (Int × List Int)} {k : Int} (c : Nat) (h : (l.find? fun r => r.1 == k) = none) : colSum (l.filter fun r => decide (r.1 < k)) c + colSum (l.filter fun r => decide (k < r.1)) c = colSum l c := by
  induction l with
  | nil => rfl
  | cons r l ih =>
    have h1 : ¬ r.1 = k := fun e => by rw [List.find?_cons_of_pos (by simpa using e)] at h; cases h
    rw [List.find?_cons_of_neg (by simpa using h1)] at h
    have ih := ih h
    have e : ∀ l : List (Int × List Int), colSum (r :: l) c = r.2.getD c 0 + colSum l c := fun l => by simp [colSum]
    by_cases h2 : r.1 < k
    · rw [List.filter_cons_of_pos (by simpa using h2), List.filter_cons_of_neg (by simp; omega), e, e]; omega
    · rw [List.filter_cons_of_neg (by simpa using h2), List.filter_cons_of_pos (by simp; omega), e, e]; omega
theorem h77_sum {T : MTab} (h : mget T (-77) = none) (c : Int) : msum (h77 T) c = msum T c := by
  unfold msum
  rw [h77_fst]
  split
  · rename_i hc
    rw [sumTo_eq, sumTo_eq, List.take_length, List.take_length]
    congr 1
    show colSum (T.2.filter (fun r => decide (r.1 < -77)) ++ (-77, List.replicate T.1 0) :: T.2.filter (fun r => decide (-77 < r.1))) _ = _
    have hf : (T.2.find? fun r => r.1 == -77) = none := by
      unfold mget at h
      cases e : T.2.find? fun r => r.1 == -77 with
      | none => rfl
      | some r => rw [e] at h; cases h
    rw [← colSum_parts c.toNat hf, colSum_app]
    congr 1
    have e0 : (List.replicate T.1 (0 : Int)).getD c.toNat 0 = 0 := by
      rw [List.getD_eq_getElem?_getD, List.getElem?_replicate]
      split <;> rfl
    show ((((-77 : Int), List.replicate T.1 (0 : Int)) :: T.2.filter (fun r => decide (-77 < r.1))).map fun r => r.2.getD c.toNat 0).sum = _
    rw [List.map_cons, List.sum_cons]
    simp only [e0, Int.zero_add]
    rfl
  · rfl
theorem H77_len (M : List MTab) : (H77 M).length = M.length := by simp [H77]
theorem mtab_H77 {M : List MTab} {i : Int} (h0 : 0 ≤ i) (h1 : i < M.length) : mtab (H77 M) i = h77 (mtab M i) := by
  unfold mtab H77
  rw [if_pos h0, if_pos h0, List.getElem?_map, List.getElem?_eq_getElem (by omega)]
  rfl
theorem H77_set (M : List MTab) (i : Nat) (T : MTab) : (H77 M).set i (h77 T) = H77 (M.set i T) := by unfold H77; rw [List.map_set]
theorem H77_colsN (M : List MTab) : colsN (H77 M) = colsN M := by simp [colsN, H77, h77_fst]
theorem H77_good {M : List MTab} {N : Nat} (hg : Good M) (hf : Few N M) (hN : N < 1000000) : Good (H77 M) ∧ Few (N + 1) (H77 M) := by
  constructor
  · refine ⟨fun T hT => ?_, by rw [H77_len]; exact hg.few⟩
    obtain ⟨U, hU, rfl⟩ := List.mem_map.1 hT
    have h1 := hf U hU
    exact ⟨(hg.tabs U hU).1.put _ _ (by simp) (by omega), (hg.tabs U hU).2⟩
  · intro T hT
    obtain ⟨U, hU, rfl⟩ := List.mem_map.1 hT
    have h1 := hf U hU
    have := put_len U (-77) (List.replicate U.1 0)
    show (U.put (-77) _).2.length ≤ _
    omega
theorem None77.set {M : List MTab} (h : None77 M) {T : MTab} (hT : mget T (-77) = none) (i : Nat) : None77 (M.set i T) := fun U hU => by
  rcases mem_set_cases hU with hU | rfl
  · exact h U hU
  · exact hT
section
variable {M : List MTab} {N : Nat}
theorem h77_mput (hg : Good M) {i k : Int} (h0 : 0 ≤ i) (h1 : i < M.length) (hk : k ≠ -77) (xs : List Int) : mput (H77 M) i k xs = (H77 (mput M i k xs).1, (mput M i k xs).2) := by
  unfold mput
  rw [mtab_H77 h0 h1, h77_fst]
  split
  · rfl
  · rw [h77_put (hg.at i).sorted hk, H77_set]
theorem h77_mset (hg : Good M) {i k : Int} (h0 : 0 ≤ i) (h1 : i < M.length) (hk : k ≠ -77) (c x : Int) : mset (H77 M) i k c x = (H77 (mset M i k c x).1, (mset M i k c x).2) := by
  unfold mset
  rw [mtab_H77 h0 h1, h77_fst, h77_get _ hk]
  split
  · split
    · rw [h77_set (hg.at i).sorted hk, H77_set]
    · rfl
  · rfl
theorem h77_mdel (hg : Good M) {i k : Int} (h0 : 0 ≤ i) (h1 : i < M.length) (hk : k ≠ -77) : mdel (H77 M) i k = (H77 (mdel M i k).1, (mdel M i k).2) := by
  unfold mdel
  rw [mtab_H77 h0 h1, h77_fst, h77_get _ hk]
  split
  · rfl
  · split
    · rw [h77_del (hg.at i).sorted hk, H77_set]
    · rfl
theorem none77_put (h : None77 M) {i k : Int} (hk : k ≠ -77) (xs : List Int) : None77 (mput M i k xs).1 := by
  unfold mput
  split
  · exact h
  · rename_i hc
    rw [not_or] at hc
    exact h.set (by rw [mget_put, if_neg hk]; exact h _ (mtab_mem hc.1)) _
theorem none77_del (h : None77 M) {i k : Int} : None77 (mdel M i k).1 := by
  unfold mdel
  split
  · exact h
  · rename_i hc
    split
    · refine h.set ?_ _
      rw [mget_del]
      split
      · rfl
      · exact h _ (mtab_mem hc)
    · exact h
theorem none77_set (h : None77 M) {i k : Int} (hk : k ≠ -77) (c x : Int) : None77 (mset M i k c x).1 := by
  unfold mset
  split
  · rename_i hc
    split
    · exact h.set (by rw [mget_set, if_neg hk]; exact h _ (mtab_mem (by omega))) _
    · exact h
  · exact h
/-- What the next one names is not the row that is more. -/
def Names77 (n : InstrD) (vars : List Int) : Prop := (nextP n vars).touched = true ∧ (nextP n vars).row = true ∧ (nextP n vars).key = -77
theorem names77 {n : InstrD} {vars : List Int} (h : ¬ Names77 n vars) (ho : 3 ≤ n.op ∧ n.op ≤ 6) : valP vars n.key ≠ -77 := fun e => by
  apply h
  unfold Names77 nextP
  by_cases h3 : n.op = 3
  · simp [h3, e]
  · have h4 : n.op = 4 ∨ n.op = 5 ∨ n.op = 6 := by omega
    have h1 : ¬ n.op = 1 := by omega
    have h2 : ¬ n.op = 2 := by omega
    simp [h1, h2, h3, h4, e]
theorem doM_77 (hg : Good M) {n : InstrD} {vars : List Int} (ht : n.op ≤ 7 → 0 ≤ n.tab ∧ n.tab < M.length) (hk : 3 ≤ n.op ∧ n.op ≤ 6 → valP vars n.key ≠ -77) (hn : None77 M) : doM n vars (H77 M) = H77 (doM n vars M) ∧ None77 (doM n vars M) := by
  unfold doM
  split
  · have h := ht (by omega)
    rw [h77_mset hg h.1 h.2 (hk (by omega))]
    exact ⟨rfl, none77_set hn (hk (by omega)) _ _⟩
  · split
    · have h := ht (by omega)
      rw [h77_mput hg h.1 h.2 (hk (by omega))]
      exact ⟨rfl, none77_put hn (hk (by omega)) _⟩
    · split
      · have h := ht (by omega)
        rw [h77_mdel hg h.1 h.2 (hk (by omega))]
        exact ⟨rfl, none77_del hn⟩
      · exact ⟨rfl, hn⟩
theorem doV_77 {n : InstrD} {vars : List Int} (ht : n.op ≤ 7 → 0 ≤ n.tab ∧ n.tab < M.length) (hk : 3 ≤ n.op ∧ n.op ≤ 6 → valP vars n.key ≠ -77) (hg : Good M) (hn : None77 M) : doV n vars (H77 M) = doV n vars M := by
  unfold doV
  split
  · have h := ht (by omega)
    unfold readP
    rw [mtab_H77 h.1 h.2, h77_get _ (hk (by omega))]
  · split
    · have h := ht (by omega)
      have h1 := mtab_ge1 hg h.1 h.2
      rw [mtab_H77 h.1 h.2, h77_sum (hn _ (mtab_mem (by omega)))]
    · rfl
/-- Another who, over rows with one more in each table, another log: it goes the same way. -/
theorem step_77 {TB : List Int} {nv K : Nat} {L : List InstrD} {s : MachD} (h : SInv TB nv L.length N K s) (hc : COk TB nv L) (hn : None77 s.M) (h77 : ¬ Names77 (L.getD s.at' default) s.vars) (most who who' : Int) (lg : List (Int × Ent)) (hl : lg.length = s.lg.length) :
    ∃ lg', stepM L most who' { s with M := H77 s.M, lg := lg } = ((stepM L most who s).1, (stepM L most who s).2.1, { (stepM L most who s).2.2 with M := H77 (stepM L most who s).2.2.M, lg := lg' }) ∧ lg'.length = (stepM L most who s).2.2.lg.length ∧ None77 (stepM L most who s).2.2.M := by
  have hi := hc.all _ _ (at_get h.at')
  have hlen : (TB.length : Int) = s.M.length := by rw [← h.cols, colsN_len]
  obtain ⟨at', vars, out, M, lg0⟩ := s
  simp only at hl hn h77 hi hlen ⊢
  unfold stepM
  dsimp only
  generalize L.getD at' default = n at *
  have ht : n.op ≤ 7 → 0 ≤ n.tab ∧ n.tab < M.length := fun ho => by have := hi.tab ho; omega
  have hk := fun ho => names77 h77 (n := n) ho
  have hg : Good M := h.good
  obtain ⟨hM, hN⟩ := doM_77 hg ht hk hn
  have hV := doV_77 ht hk hg hn
  have went : ∀ lg', wentP n ⟨at', vars, out, H77 M, lg⟩ lg' = { (wentP n ⟨at', vars, out, M, lg0⟩ lg0) with M := H77 (doM n vars M), lg := lg' } := fun lg' => by
    unfold wentP
    dsimp only
    rw [hM, hV]
  by_cases h1 : (nextP n vars).kind = 1
  · have k1 : ¬ (nextP n vars).kind ≠ 1 := by rw [h1]; exact fun h => h rfl
    simp only [if_neg k1]
    by_cases hw : (nextP n vars).wrote = true
    · have hwo := (nextP_wrote vars).1 hw
      have he : noteE (H77 M) most lg n.tab = noteE M most lg0 n.tab := by
        unfold noteE
        rw [mtab_H77 (ht (by omega)).1 (ht (by omega)).2, h77_fst, hl]
      simp only [if_pos hw, he]
      by_cases h0 : noteE M most lg0 n.tab = 0
      · simp only [if_pos h0]
        refine ⟨noteL (H77 M) most lg who' n.tab (nextP n vars).key, by rw [went]; rfl, ?_, hN⟩
        show _ = (noteL M most lg0 who n.tab (nextP n vars).key).length
        unfold noteL
        rw [he, if_pos h0, if_pos h0]
        simp [hl]
      · simp only [if_neg h0]
        exact ⟨lg, rfl, hl, hn⟩
    · simp only [if_neg hw]
      exact ⟨lg, by rw [went]; rfl, hl, hN⟩
  · simp only [ne_eq, h1, not_false_eq_true, if_true]
    exact ⟨lg, rfl, hl, hn⟩
end
end Go.Proofs.Ytgpekgnhbccnoaa
