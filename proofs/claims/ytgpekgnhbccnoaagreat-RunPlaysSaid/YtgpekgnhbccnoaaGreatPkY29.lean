/-
 What a step leaves is well formed; plain lists.
 No condition.
-/
import Derived.Test.YtgpekgnhbccnoaaGreatPkY16
import Derived.Test.YtgpekgnhbccnoaaGreatPkY25
namespace Go.Proofs.YtgpekgnhbccnoaaGreat
open Go Go.RowKit

theorem colsN_of {M M' : List MTab} (h : colsOf M = colsOf M') : colsN M = colsN M' := by
 have e : ∀ M : List MTab, colsN M = (colsOf M).map fun (n : Nat) => (n : Int) := fun M => by simp [colsN, colsOf]
 rw [e, e, h]
structure SInv (TB : List Int) (nv size N K : Nat) (s : MachD) : Prop where
 good : Good s.M
 few : Few N s.M
 cols : colsN s.M = TB
 len : s.vars.length = nv
 at' : s.at' < size
 out : s.out.length ≤ K
 lg : s.lg.length ≤ K
theorem SInv.mono {TB : List Int} {nv size N K N' K' : Nat} {s : MachD} (h : SInv TB nv size N K s) (hN : N ≤ N') (hK : K ≤ K') : SInv TB nv size N' K' s :=
 ⟨h.good, fun T hT => Nat.le_trans (h.few T hT) hN, h.cols, h.len, h.at', Nat.le_trans h.out hK, Nat.le_trans h.lg hK⟩
theorem doM_good {M : List MTab} {N : Nat} (hg : Good M) (hf : Few N M) (hN : N < 1000000) (n : InstrD) (vars : List Int) : Good (doM n vars M) ∧ Few (N + 1) (doM n vars M) ∧ colsN (doM n vars M) = colsN M := by
 have up : ∀ {M' : List MTab}, Few N M' → Few (N + 1) M' := fun h T hT => Nat.le_succ_of_le (h T hT)
 unfold doM
 split
 ·have := good_set hg hf n.tab (valP vars n.key) n.col (valP vars (n.vals.getD 0 []))
  exact ⟨this.1, up this.2, colsN_of (cols_set _ _ _ _ _)⟩
 ·split
  ·have := good_put hg hf hN n.tab (valP vars n.key) (n.vals.map (valP vars))
   exact ⟨this.1, this.2, colsN_of (cols_put _ _ _ _)⟩
  ·split
   ·have := good_del hg hf n.tab (valP vars n.key)
    exact ⟨this.1, up this.2, colsN_of (cols_del _ _ _)⟩
   ·exact ⟨hg, up hf, rfl⟩
theorem doO_len (n : InstrD) (vars out : List Int) : (doO n vars out).length ≤ out.length + 1 := by
 unfold doO
 split
 ·simp
 ·omega
theorem COk.before {TB : List Int} {nv : Nat} {L : List InstrD} (hc : COk TB nv L) {i : Nat} {n : InstrD} (hn : L[i]? = some n) (h : n.op ≠ 16) : i + 1 < L.length := by
 have h1 := (List.getElem?_eq_some_iff.1 hn).1
 have h2 := hc.last i n hn
 omega
theorem SInv.went {TB : List Int} {nv N K : Nat} {L : List InstrD} {s : MachD} (h : SInv TB nv L.length N K s) (hc : COk TB nv L) {n : InstrD} (hn : L[s.at']? = some n) (hN : N < 1000000) (ho : n.op ≠ 16) {lg : List (Int × Ent)} (hl : lg.length ≤ K + 1) : SInv TB nv L.length (N + 1) (K + 1) (wentP n s lg) := by
 obtain ⟨g1, g2, g3⟩ := doM_good h.good h.few hN n s.vars
 refine ⟨g1, g2, g3.trans h.cols, ?_, ?_, Nat.le_trans (doO_len _ _ _) (Nat.succ_le_succ h.out), hl⟩
 ·show (onP n (doV n s.vars s.M)).1.length = nv
  rw [onP_len, doV_len]; exact h.len
 ·show (match (onP n (doV n s.vars s.M)).2 with | some t => t.toNat | none => s.at' + 1) < L.length
  cases e : (onP n (doV n s.vars s.M)).2 with
  | none => exact hc.before hn ho
  | some t =>
   obtain ⟨rfl, h1, h2⟩ := onP_dst e
   have := (hc.all _ _ hn).dst ⟨h1, h2⟩
   simp only
   omega
theorem colsN_len (M : List MTab) : (colsN M).length = M.length := by simp [colsN]
theorem noteL_len (M : List MTab) (most : Int) (lg : List (Int × Ent)) (who t k : Int) : (noteL M most lg who t k).length ≤ lg.length + 1 := by
 unfold noteL
 split
 ·simp
 ·omega
theorem at_get {L : List InstrD} {i : Nat} (h : i < L.length) : L[i]? = some (L.getD i default) := by
 rw [List.getD_eq_getElem?_getD, List.getElem?_eq_getElem h]; rfl
theorem step_inv {TB : List Int} {nv N K : Nat} {L : List InstrD} {s : MachD} (h : SInv TB nv L.length N K s) (hc : COk TB nv L) (hN : N < 1000000) (most who : Int) : SInv TB nv L.length (N + 1) (K + 1) (stepM L most who s).2.2 := by
 have hn := at_get h.at'
 have hi := hc.all _ _ hn
 have hk := nextP_kind s.vars hi.lo hi.hi
 have h0 : SInv TB nv L.length (N + 1) (K + 1) s := h.mono (by omega) (by omega)
 unfold stepM
 dsimp only
 generalize L.getD s.at' default = n at *
 by_cases h1 : (nextP n s.vars).kind = 1
 ·have ho := hk.1 h1
  rw [if_neg (by simpa using h1)]
  by_cases hw : (nextP n s.vars).wrote = true
  ·rw [if_pos hw]
   split
   ·exact h.went hc hn hN (by omega) (Nat.le_trans (noteL_len _ _ _ _ _ _) (Nat.succ_le_succ h.lg))
   ·exact h0
  ·rw [if_neg hw]
   exact h.went hc hn hN (by omega) (Nat.le_succ_of_le h.lg)
 ·rw [if_pos h1]
  exact h0
theorem SInv.goes {TB : List Int} {nv N K : Nat} {L : List InstrD} {s : MachD} (h : SInv TB nv L.length N K s) (hc : COk TB nv L) (hk : (nextP (L.getD s.at' default) s.vars).kind = 2 ∨ (nextP (L.getD s.at' default) s.vars).kind = 3 ∨ (nextP (L.getD s.at' default) s.vars).kind = 4) : SInv TB nv L.length N K { s with at' := s.at' + 1 } := by
 have hn := at_get h.at'
 refine ⟨h.good, h.few, h.cols, h.len, hc.before hn fun e => ?_, h.out, h.lg⟩
 unfold nextP at hk
 rw [e] at hk
 simp at hk
/-- What is wanted turns nothing. -/
theorem step_want {L : List InstrD} {most who : Int} {s : MachD} (h : (nextP (L.getD s.at' default) s.vars).kind ≠ 1) : stepM L most who s = (nextP (L.getD s.at' default) s.vars, 0, s) := by
 unfold stepM
 dsimp only
 rw [if_pos h]
end Go.Proofs.YtgpekgnhbccnoaaGreat
