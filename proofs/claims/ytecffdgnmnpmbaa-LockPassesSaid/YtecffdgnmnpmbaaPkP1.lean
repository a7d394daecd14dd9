/-
  Who passes whom: the run of LockPasses in plain lists, checked at each of its sizes.
  No condition.
-/
import Derived.Test.YtecffdgnmnpmbaaPkC36
namespace Go.Proofs.Ytecffdgnmnpmbaa
open Go

instance decLkS : DecidableEq LkS := fun a b =>
  if h1 : a.most = b.most then if h2 : a.H = b.H then if h3 : a.W = b.W then .isTrue (by cases a; cases b; simp only at h1 h2 h3; subst h1; subst h2; subst h3; rfl)
    else .isFalse fun e => h3 (by rw [e])
    else .isFalse fun e => h2 (by rw [e])
    else .isFalse fun e => h1 (by rw [e])
def ps3 : Spot := (3, false, 0)
def psH (m : Int) (b : Bool) : List LkE := if b then [⟨ps3, 1, m⟩, ⟨ps3, 2, m⟩] else [⟨ps3, 1, m⟩]
/-- Those that wait, from number i on. -/
def psW (k i : Nat) : List LkE := ((List.range k).drop i).map fun j : Nat => ⟨ps3, 10 + (j : Int), 5⟩
def psLast (i : Nat) : Int := if i = 0 then 1 else 9 + (i : Int)
def chkA (m : Int) (b : Bool) (i : Nat) : Bool := decide (askL ⟨100, psH m b, psW i 0⟩ (10 + (i : Int)) ps3 5 = ((false, 0), ⟨100, psH m b, psW (i + 1) 0⟩))
def chkB (m : Int) (b : Bool) (k : Nat) : Bool := decide (askL ⟨100, psH m b, psW k 0⟩ 1 ps3 5 = if b then ((false, 0), ⟨100, psH m b, psW k 0 ++ [⟨ps3, 1, 5⟩]⟩) else ((true, 0), ⟨100, [⟨ps3, 1, 5⟩], psW k 0⟩))
def chkC (m : Int) (k : Nat) : Bool := decide (leaveL ⟨100, psH m true, psW k 0 ++ [⟨ps3, 1, 5⟩]⟩ 2 = ([1], ⟨100, [⟨ps3, 1, 5⟩], psW k 0⟩)) && decide (prs (queueL (psH m true) (psW k 0 ++ [⟨ps3, 1, 5⟩]) ps3) = (1, 5) :: prs (psW k 0))
def chkD (k i : Nat) : Bool := decide (leaveL ⟨100, [⟨ps3, psLast i, 5⟩], psW k i⟩ (psLast i) = ([10 + (i : Int)], ⟨100, [⟨ps3, 10 + (i : Int), 5⟩], psW k (i + 1)⟩)) && decide (prs (queueL [⟨ps3, 1, 5⟩] (psW k 0) ps3) = prs (psW k 0))
theorem of_range {n : Nat} {f : Nat → Bool} (h : (List.range n).all f = true) {i : Nat} (hi : i < n) : f i = true := List.all_eq_true.1 h i (List.mem_range.2 hi)
theorem chkA_ok {m : Int} (hm : m = 1 ∨ m = 3) (b : Bool) {i : Nat} (hi : i < 20) : askL ⟨100, psH m b, psW i 0⟩ (10 + (i : Int)) ps3 5 = ((false, 0), ⟨100, psH m b, psW (i + 1) 0⟩) := by
  have h : (List.range 20).all (chkA m b) = true := by
    rcases hm with rfl | rfl <;> cases b <;> kernel_rfl
  exact of_decide_eq_true (of_range h hi)
theorem chkB_ok {m : Int} (hm : m = 1 ∨ m = 3) (b : Bool) {k : Nat} (hk : k < 21) : askL ⟨100, psH m b, psW k 0⟩ 1 ps3 5 = if b then ((false, 0), ⟨100, psH m b, psW k 0 ++ [⟨ps3, 1, 5⟩]⟩) else ((true, 0), ⟨100, [⟨ps3, 1, 5⟩], psW k 0⟩) := by
  have h : (List.range 21).all (chkB m b) = true := by
    rcases hm with rfl | rfl <;> cases b <;> kernel_rfl
  exact of_decide_eq_true (of_range h hk)
theorem chkC_ok {m : Int} (hm : m = 1 ∨ m = 3) {k : Nat} (hk : k < 21) : leaveL ⟨100, psH m true, psW k 0 ++ [⟨ps3, 1, 5⟩]⟩ 2 = ([1], ⟨100, [⟨ps3, 1, 5⟩], psW k 0⟩) ∧ prs (queueL (psH m true) (psW k 0 ++ [⟨ps3, 1, 5⟩]) ps3) = (1, 5) :: prs (psW k 0) := by
  have h : (List.range 21).all (chkC m) = true := by
    rcases hm with rfl | rfl <;> kernel_rfl
  have h1 := of_range h hk
  unfold chkC at h1
  rw [Bool.and_eq_true, decide_eq_true_eq, decide_eq_true_eq] at h1
  exact h1
theorem chkD_ok {k i : Nat} (hk : k < 21) (hi : i < k) : leaveL ⟨100, [⟨ps3, psLast i, 5⟩], psW k i⟩ (psLast i) = ([10 + (i : Int)], ⟨100, [⟨ps3, 10 + (i : Int), 5⟩], psW k (i + 1)⟩) ∧ prs (queueL [⟨ps3, 1, 5⟩] (psW k 0) ps3) = prs (psW k 0) := by
  have h : (List.range 21).all (fun k => (List.range k).all (chkD k)) = true := by kernel_rfl
  have h1 := of_range (of_range h hk) hi
  unfold chkD at h1
  rw [Bool.and_eq_true, decide_eq_true_eq, decide_eq_true_eq] at h1
  exact h1
theorem psW_len (k : Nat) : (prs (psW k 0)).length = k := by
  unfold prs psW
  simp
theorem psLast_next (i : Nat) : psLast (i + 1) = 10 + (i : Int) := by unfold psLast; rw [if_neg (by omega)]; omega
theorem i64_wf {x : Int} (h1 : 0 ≤ x) (h2 : x ≤ 1000) : (Lit.int .i64 x).wf = true := by
  have e1 : IntKind.i64.min = -9223372036854775808 := by kernel_rfl
  have e2 : IntKind.i64.max = 9223372036854775807 := by kernel_rfl
  unfold Lit.wf
  simp [e1, e2]
  omega
theorem ps_wf : SWf ps3 := by unfold SWf; decide
end Go.Proofs.Ytecffdgnmnpmbaa
