/-
  The log of undoing: walk of Clean.
  No condition but sizes.
-/
import Derived.Test.YtgpekgnhbccnoaaPkLk28
import Derived.Test.YtgpekgnhbccnoaaPkLk29
namespace Go.Proofs.Ytgpekgnhbccnoaa
end Go.Proofs.Ytgpekgnhbccnoaa
