/-
  What is kept while a state goes on, each change noted ahead: taken back, the rows are what they were.
  No condition.
-/
import Derived.Test.YtgpekgnhbccnoaaGreatPkZb38
import Derived.Test.YtgpekgnhbccnoaaGreatPkZb34
import Derived.Test.YtgpekgnhbccnoaaGreatPkZb35
namespace Go.Proofs.YtgpekgnhbccnoaaGreat
open Go Go.RowKit

theorem bdel_get (M : List MTab) (t k t' k' : Int) (h0 : (mtab M t).1 ≠ 0) : mget (mtab (mdel M t k).1 t') k' = if t = t' ∧ k = k' then none else mget (mtab M t') k' := get_del h0 t' k'
/-- A change of one row, and its taking back. -/
theorem undo_change {M M' : List MTab} {N : Nat} (hg : Good M) (hg' : Good M') (hf' : Few N M') (hN : N < 1000000) (hc : colsOf M' = colsOf M) {t k : Int} (ht : (mtab M t).1 ≠ 0) (h : ∀ t' k', ¬ (t = t' ∧ k = k') → mget (mtab M' t') k' = mget (mtab M t') k') : undoE M' (entOf M t k) = M := by
  have hl : ∀ i : Int, (mtab M' i).1 = (mtab M i).1 := fun i => by
    by_cases h0 : 0 ≤ i
    · obtain ⟨m, rfl⟩ : ∃ m : Nat, i = (m : Int) := ⟨i.toNat, by omega⟩
      rw [mtab_cols, mtab_cols, hc]
    · unfold mtab
      rw [if_neg h0, if_neg h0]
  unfold undoE entOf
  simp only
  cases e : mget (mtab M t) k with
  | none =>
    simp only
    have h1 := good_del hg' hf' t k
    refine model_ext h1.1 hg (by rw [cols_del, hc]) fun t' k' => ?_
    rw [bdel_get _ _ _ _ _ (by rw [hl]; exact ht)]
    by_cases hq : t = t' ∧ k = k'
    · rw [if_pos hq]
      obtain ⟨rfl, rfl⟩ := hq
      exact e.symm
    · rw [if_neg hq]
      exact h t' k' hq
  | some xs =>
    simp only
    have h1 := good_put hg' hf' hN t k xs
    have hw : xs.length = (mtab M t).1 := (hg.at t).width (k, xs) (mget_mem e)
    refine model_ext h1.1 hg (by rw [cols_put, hc]) fun t' k' => ?_
    rw [get_put (by rw [hl]; exact ht) (by rw [hl]; exact hw)]
    by_cases hq : t = t' ∧ k = k'
    · rw [if_pos hq]
      obtain ⟨rfl, rfl⟩ := hq
      exact e.symm
    · rw [if_neg hq]
      exact h t' k' hq
/-- What an instruction does to the rows it does to its own row. -/
theorem doM_other {n : InstrD} {vars : List Int} {M : List MTab} {t' k' : Int} (h : ¬ (n.tab = t' ∧ valP vars n.key = k')) : mget (mtab (doM n vars M) t') k' = mget (mtab M t') k' := by
  unfold doM
  split
  · exact keep_set h _ _
  · split
    · exact keep_put h _
    · split
      · exact keep_del h
      · rfl
theorem doM_same {n : InstrD} {vars : List Int} {M : List MTab} (h : ¬ (4 ≤ n.op ∧ n.op ≤ 6)) : doM n vars M = M := by
  unfold doM
  rw [if_neg (by omega), if_neg (by omega), if_neg (by omega)]
structure BInv (M0 M : List MTab) (L : List (Int × Ent)) : Prop where
  one : ∀ p ∈ L, p.1 = 1
  chain : (ofL L 1).reverse.foldl undoE M = M0
section
variable {M0 M : List MTab} {L : List (Int × Ent)}
theorem BInv.start (M : List MTab) : BInv M M [] := ⟨(fun p hp => by cases hp), rfl⟩
theorem BInv.clean (h : BInv M0 M L) : cleanM M L = M0 := (clean_one h.one M).trans h.chain
theorem BInv.wf (h : BInv M0 M L) : ∀ p ∈ L, (Lit.int .i64 p.1).wf = true := fun p hp => by rw [h.one p hp]; decide
theorem BInv.ofs (h : BInv M0 M L) : ofL L 1 = L.map Prod.snd := by
  unfold ofL
  rw [List.filter_eq_self.2 fun p hp => by rw [h.one p hp]; rfl]
theorem BInv.len (h : BInv M0 M L) : (ofL L 1).length = L.length := by rw [h.ofs, List.length_map]
theorem BInv.back (h : BInv M0 M L) (hn : 0 < L.length) : BInv M0 (backM M L 1) (backL L 1) ∧ (backL L 1).length + 1 = L.length ∧ (ofL L 1).isEmpty = false := by
  have hne : ofL L 1 ≠ [] := fun e => by have := h.len; rw [e] at this; simp at this; omega
  obtain ⟨ds, x, hx⟩ := snoc_of hne
  obtain ⟨h1, h2⟩ := back_some hx
  refine ⟨⟨fun p hp => ?_, ?_⟩, h2, by rw [hx]; cases ds <;> rfl⟩
  · unfold backL at hp
    split at hp
    · exact h.one p hp
    · exact h.one p (List.mem_of_mem_eraseIdx hp)
  · rw [h1, if_pos rfl]
    unfold backM
    rw [hx, List.getLast?_concat]
    have := h.chain
    rw [hx, List.reverse_append, List.foldl_append] at this
    exact this
theorem BInv.done (h : BInv M0 M L) (hn : L.length = 0) : L = [] ∧ M = M0 := by
  have : L = [] := by cases L with
    | nil => rfl
    | cons p L => simp at hn
  subst this
  exact ⟨rfl, h.chain⟩
theorem bgood_undo {N : Nat} (hg : Good M) (hf : Few N M) (hN : N < 1000000) (e : Ent) : Good (undoE M e) ∧ Few (N + 1) (undoE M e) := by
  unfold undoE
  split
  · have := good_del hg hf e.1 e.2.1
    exact ⟨this.1, fun T hT => Nat.le_succ_of_le (this.2 T hT)⟩
  · exact good_put hg hf hN _ _ _
theorem bgood_back {N : Nat} (hg : Good M) (hf : Few N M) (hN : N < 1000000) (L : List (Int × Ent)) : Good (backM M L 1) ∧ Few (N + 1) (backM M L 1) := by
  unfold backM
  split
  · exact bgood_undo hg hf hN _
  · exact ⟨hg, fun T hT => Nat.le_succ_of_le (hf T hT)⟩
end
/-- A step: the log grows by one just if there was a change; taken back, it is as it was. -/
theorem step_binv {TB : List Int} {nv N K : Nat} {L : List InstrD} {s : MachD} {M0 : List MTab} (h : SInv TB nv L.length N K s) (hc : COk TB nv L) (hN : N < 999999) {most : Int} (hm : (K : Int) < most) (hb : BInv M0 s.M s.lg) :
    BInv M0 (stepM L most 1 s).2.2.M (stepM L most 1 s).2.2.lg ∧ (stepM L most 1 s).2.2.lg.length = s.lg.length + (if (nextP (L.getD s.at' default) s.vars).wrote = true then 1 else 0) := by
  have hi := hc.all _ _ (at_get h.at')
  have hlen : (TB.length : Int) = s.M.length := by rw [← h.cols, colsN_len]
  have hl := h.lg
  unfold stepM
  dsimp only
  generalize L.getD s.at' default = n at *
  by_cases hw : (nextP n s.vars).wrote = true
  · have hwo := (nextP_wrote s.vars).1 hw
    have hk : (nextP n s.vars).kind = 1 := (nextP_kind s.vars hi.lo hi.hi).2 (by omega)
    have ht := hi.tab (by omega)
    have h0 := noteE_room (lg := s.lg) (most := most) h.good ht.1 (by omega) (by omega)
    have hkey := nextP_key s.vars hwo
    simp only [hk, hw, h0, if_true, ne_eq, not_true_eq_false, if_false]
    have hlg : noteL s.M most s.lg 1 n.tab (nextP n s.vars).key = s.lg ++ [(1, entOf s.M n.tab (nextP n s.vars).key)] := by unfold noteL; rw [if_pos h0]
    obtain ⟨g1, g2, g3⟩ := doM_good h.good h.few (by omega) n s.vars
    have hcols : colsOf (doM n s.vars s.M) = colsOf s.M := colsOf_of_N g3
    have h1 := mtab_ge1 h.good ht.1 (by omega : n.tab < s.M.length)
    refine ⟨⟨fun p hp => ?_, ?_⟩, ?_⟩
    · have hp' : p ∈ noteL s.M most s.lg 1 n.tab (nextP n s.vars).key := hp
      rw [hlg] at hp'
      rcases List.mem_append.1 hp' with hp' | hp'
      · exact hb.one p hp'
      · rw [List.mem_singleton.1 hp']
    · show (ofL (noteL s.M most s.lg 1 n.tab (nextP n s.vars).key) 1).reverse.foldl undoE (doM n s.vars s.M) = M0
      rw [hlg, ofL_snoc, if_pos rfl, List.reverse_append, List.foldl_append]
      show (ofL s.lg 1).reverse.foldl undoE (undoE (doM n s.vars s.M) (entOf s.M n.tab (nextP n s.vars).key)) = M0
      rw [hkey, undo_change h.good g1 g2 (by omega) hcols (by omega) fun t' k' hq => doM_other hq]
      exact hb.chain
    · show (noteL s.M most s.lg 1 n.tab (nextP n s.vars).key).length = _
      rw [hlg]
      simp
  · rw [if_neg hw]
    have hwo : ¬ (4 ≤ n.op ∧ n.op ≤ 6) := fun h => hw ((nextP_wrote s.vars).2 h)
    split
    · exact ⟨hb, rfl⟩
    · refine ⟨?_, rfl⟩
      show BInv M0 (doM n s.vars s.M) s.lg
      rw [doM_same hwo]
      exact hb
end Go.Proofs.YtgpekgnhbccnoaaGreat
