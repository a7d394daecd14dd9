/-
  Walk of the law's beside.
  No condition but sizes.
  Walk of the law's blocked.
  No condition but sizes.
-/
import Derived.Test.YtokeciekncincaaGreatPkF39
import Derived.Test.YtokeciekncincaaGreatPkF11
import Derived.Test.YtokeciekncincaaGreatPkF14
import Derived.BigQuiet
import Derived.Deep.CutBlock
import Derived.Deep.QuietTactic
namespace Go.Proofs.YtokeciekncincaaGreat
open Go Go.RowKit Go.Maps

def AllBes (l : List (Int × Int)) : Prop := (∀ p ∈ l, ModeOk p.2 ∧ p.2 ≠ 0) ∧ ∀ (i k : Nat) p q, l[i]? = some p → l[k]? = some q → k < i → besM p.2 q.2 = true
end Go.Proofs.YtokeciekncincaaGreat
namespace Go.Proofs.YtokeciekncincaaGreat
open Go Go.RowKit Go.Maps

def upB (h : List (Int × Int)) (q : Int × Int) : Bool := h.any fun p => p.1 == q.1
def freeB (h : List (Int × Int)) (q : Int × Int) : Bool := h.all fun p => p.1 == q.1 || besM q.2 p.2
structure OkQ (h l : List (Int × Int)) : Prop where
  hm : ∀ p ∈ h, ModeOk p.2
  lm : ∀ q ∈ l, ModeOk q.2
  first : ∀ q, l[0]? = some q → freeB h q = false
  ups : ∀ (i j : Nat) q r, l[i]? = some q → l[j]? = some r → j < i → upB h q = true → upB h r = true
theorem upB_next {h : List (Int × Int)} {k : Nat} {p : Int × Int} (q : Int × Int) (hp : h[k]? = some p) : upB (h.take (k + 1)) q = (upB (h.take k) q || p.1 == q.1) := by
  unfold upB
  rw [List.take_add_one, hp, List.any_append]
  simp
theorem freeB_next {h : List (Int × Int)} {k : Nat} {p : Int × Int} (q : Int × Int) (hp : h[k]? = some p) : freeB (h.take (k + 1)) q = (freeB (h.take k) q && (p.1 == q.1 || besM q.2 p.2)) := by
  unfold freeB
  rw [List.take_add_one, hp, List.all_append]
  simp
end Go.Proofs.YtokeciekncincaaGreat
