/-
  Walk of sameInts.
  No condition but sizes.
-/
import Derived.Test.YtgpekgnhbccnoaaGreatPkZb7
import Derived.Deep.QuietTactic
import Derived.BigQuiet
namespace Go.Proofs.YtgpekgnhbccnoaaGreat
open Go Go.RowKit

theorem take_succ_eq {xs ys : List Int} {k : Nat} {x y : Int} (hx : xs[k]? = some x) (hy : ys[k]? = some y) (h : xs.take k = ys.take k) (hxy : x = y) : xs.take (k + 1) = ys.take (k + 1) := by
  rw [List.take_add_one, List.take_add_one, hx, hy, h, hxy]

end Go.Proofs.YtgpekgnhbccnoaaGreat
