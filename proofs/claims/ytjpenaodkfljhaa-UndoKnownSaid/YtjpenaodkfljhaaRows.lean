/-
  No cell of these rows narrows 'for every input' (looked for: loops, veiled, ifaces, maps, wideKeys, modest, calm, conditions, laid).
  DERIVED. THE GIVEN ROWS OF THIS SEAT. 7 by the template 'for every input the law returns true; each argument reads behind the call as it read before'; 0 by the template 'total and deterministic' (their statements: YtjpenaodkfljhaaTotals.lean).
  GIVEN WITH THE SEED: the statements are not yours to turn. If you find one false, say at which input.
  Laid BY PROGRAM, IN A SANDBOX (cutbox-rows.mjs): the forced cells as the released guide's own fill.sh prints them over the translation 112649da696067fd… (all of the seat's roots in one cut). By AI agents, Wed Nov 11 2026. No macro, syntax, notation, axiom, sorry.
-/
import Derived.Test.YtjpenaodkfljhaaChecked
import GoSem.Claim
import GoSem.ClaimJoined
import GoSem.ClaimMapViews
import Derived.JoinedTies
import Derived.KernelRfl
namespace Go.Proofs.Ytjpenaodkfljhaa
/- THE CELL 'sum', in the pinned program and in every row, IS THE sha256 OF THE DUMP (.gsa) THAT YtjpenaodkfljhaaProg.lean LOADS. Nothing in Lean hashes anything: it is a label: what it is worth is what the hold of that sum in a sandbox is worth. -/
noncomputable def Try.pinned : Pinned := { name := "ytjpenaodkfljhaa", sum := "112649da696067fda62dde84f865724e5fa7fe5d99494021097bfb5d374d0543", checked := Try.checked }
namespace Rows
def none {H : Type} : Left H := { results := [], args := [] }

/-- 'interlocklaw16.RunHangs': WHATEVER THE INPUT: true; the input reads as it did. -/
def runHangsSpec : ChangeSpec := { name := "runHangs", fn := fun _ => fun
  | [d1, d2, d3, d4, d5, d6] => { results := [.lit (.bool true)], args := [d1, d2, d3, d4, d5, d6] }
  | _ => none }
def runHangsRow : OpenClaim := { program := "ytjpenaodkfljhaa", sum := "112649da696067fda62dde84f865724e5fa7fe5d99494021097bfb5d374d0543", func := "interlock/interlocklaw16.RunHangs", spec := "runHangs", inPlace := ["slices.overlaps[interlock/rows.Row]"], unfollowed := true, recurses := true, apart := false }
def RunHangsSaid : Prop := runHangsRow.holds Try.pinned (OpenSpec.ofChange runHangsSpec)

/-- ITS FALSE NEIGHBOUR: 'it returns false'. Refute it at one input. -/
def runHangsWrong : ChangeSpec := { name := "runHangs", fn := fun _ => fun
  | [d1, d2, d3, d4, d5, d6] => { results := [.lit (.bool false)], args := [d1, d2, d3, d4, d5, d6] }
  | _ => none }
def RunHangsWrongFalsely : Prop := runHangsRow.holds Try.pinned (OpenSpec.ofChange runHangsWrong)

/-- 'interlocklaw16.RunLooks': WHATEVER THE INPUT: true; the input reads as it did. -/
def runLooksSpec : ChangeSpec := { name := "runLooks", fn := fun _ => fun
  | [d1, d2, d3, d4, d5, d6] => { results := [.lit (.bool true)], args := [d1, d2, d3, d4, d5, d6] }
  | _ => none }
def runLooksRow : OpenClaim := { program := "ytjpenaodkfljhaa", sum := "112649da696067fda62dde84f865724e5fa7fe5d99494021097bfb5d374d0543", func := "interlock/interlocklaw16.RunLooks", spec := "runLooks", inPlace := ["slices.overlaps[interlock/rows.Row]"], unfollowed := true, recurses := true, apart := false }
def RunLooksSaid : Prop := runLooksRow.holds Try.pinned (OpenSpec.ofChange runLooksSpec)

/-- ITS FALSE NEIGHBOUR: 'it returns false'. Refute it at one input. -/
def runLooksWrong : ChangeSpec := { name := "runLooks", fn := fun _ => fun
  | [d1, d2, d3, d4, d5, d6] => { results := [.lit (.bool false)], args := [d1, d2, d3, d4, d5, d6] }
  | _ => none }
def RunLooksWrongFalsely : Prop := runLooksRow.holds Try.pinned (OpenSpec.ofChange runLooksWrong)

/-- 'interlocklaw14.UndoPlays': WHATEVER THE INPUT: true; the input reads as it did. -/
def undoPlaysSpec : ChangeSpec := { name := "undoPlays", fn := fun _ => fun
  | [d1, d2] => { results := [.lit (.bool true)], args := [d1, d2] }
  | _ => none }
def undoPlaysRow : OpenClaim := { program := "ytjpenaodkfljhaa", sum := "112649da696067fda62dde84f865724e5fa7fe5d99494021097bfb5d374d0543", func := "interlock/interlocklaw14.UndoPlays", spec := "undoPlays", inPlace := ["slices.overlaps[interlock/rows.Row]"], unfollowed := true, recurses := true, apart := false }
def UndoPlaysSaid : Prop := undoPlaysRow.holds Try.pinned (OpenSpec.ofChange undoPlaysSpec)

/-- ITS FALSE NEIGHBOUR: 'it returns false'. Refute it at one input. -/
def undoPlaysWrong : ChangeSpec := { name := "undoPlays", fn := fun _ => fun
  | [d1, d2] => { results := [.lit (.bool false)], args := [d1, d2] }
  | _ => none }
def UndoPlaysWrongFalsely : Prop := undoPlaysRow.holds Try.pinned (OpenSpec.ofChange undoPlaysWrong)

/-- 'interlocklaw14.UndoBack': WHATEVER THE INPUT: true; the input reads as it did. -/
def undoBackSpec : ChangeSpec := { name := "undoBack", fn := fun _ => fun
  | [d1, d2] => { results := [.lit (.bool true)], args := [d1, d2] }
  | _ => none }
def undoBackRow : OpenClaim := { program := "ytjpenaodkfljhaa", sum := "112649da696067fda62dde84f865724e5fa7fe5d99494021097bfb5d374d0543", func := "interlock/interlocklaw14.UndoBack", spec := "undoBack", inPlace := ["slices.overlaps[interlock/rows.Row]"], unfollowed := true, recurses := true, apart := false }
def UndoBackSaid : Prop := undoBackRow.holds Try.pinned (OpenSpec.ofChange undoBackSpec)

/-- ITS FALSE NEIGHBOUR: 'it returns false'. Refute it at one input. -/
def undoBackWrong : ChangeSpec := { name := "undoBack", fn := fun _ => fun
  | [d1, d2] => { results := [.lit (.bool false)], args := [d1, d2] }
  | _ => none }
def UndoBackWrongFalsely : Prop := undoBackRow.holds Try.pinned (OpenSpec.ofChange undoBackWrong)

/-- 'interlocklaw14.UndoApart': WHATEVER THE INPUT: true; the input reads as it did. -/
def undoApartSpec : ChangeSpec := { name := "undoApart", fn := fun _ => fun
  | [d] => { results := [.lit (.bool true)], args := [d] }
  | _ => none }
def undoApartRow : OpenClaim := { program := "ytjpenaodkfljhaa", sum := "112649da696067fda62dde84f865724e5fa7fe5d99494021097bfb5d374d0543", func := "interlock/interlocklaw14.UndoApart", spec := "undoApart", inPlace := ["slices.overlaps[interlock/rows.Row]"], unfollowed := true, recurses := true, apart := false }
def UndoApartSaid : Prop := undoApartRow.holds Try.pinned (OpenSpec.ofChange undoApartSpec)

/-- ITS FALSE NEIGHBOUR: 'it returns false'. Refute it at one input. -/
def undoApartWrong : ChangeSpec := { name := "undoApart", fn := fun _ => fun
  | [d] => { results := [.lit (.bool false)], args := [d] }
  | _ => none }
def UndoApartWrongFalsely : Prop := undoApartRow.holds Try.pinned (OpenSpec.ofChange undoApartWrong)

/-- 'interlocklaw14.UndoForgets': WHATEVER THE INPUT: true; the input reads as it did. -/
def undoForgetsSpec : ChangeSpec := { name := "undoForgets", fn := fun _ => fun
  | [d1, d2] => { results := [.lit (.bool true)], args := [d1, d2] }
  | _ => none }
def undoForgetsRow : OpenClaim := { program := "ytjpenaodkfljhaa", sum := "112649da696067fda62dde84f865724e5fa7fe5d99494021097bfb5d374d0543", func := "interlock/interlocklaw14.UndoForgets", spec := "undoForgets", inPlace := ["slices.overlaps[interlock/rows.Row]"], unfollowed := true, recurses := true, apart := false }
def UndoForgetsSaid : Prop := undoForgetsRow.holds Try.pinned (OpenSpec.ofChange undoForgetsSpec)

/-- ITS FALSE NEIGHBOUR: 'it returns false'. Refute it at one input. -/
def undoForgetsWrong : ChangeSpec := { name := "undoForgets", fn := fun _ => fun
  | [d1, d2] => { results := [.lit (.bool false)], args := [d1, d2] }
  | _ => none }
def UndoForgetsWrongFalsely : Prop := undoForgetsRow.holds Try.pinned (OpenSpec.ofChange undoForgetsWrong)

/-- 'interlocklaw14.UndoKnown': WHATEVER THE INPUT: true; the input reads as it did. -/
def undoKnownSpec : ChangeSpec := { name := "undoKnown", fn := fun _ => fun
  | [] => { results := [.lit (.bool true)], args := [] }
  | _ => none }
def undoKnownRow : OpenClaim := { program := "ytjpenaodkfljhaa", sum := "112649da696067fda62dde84f865724e5fa7fe5d99494021097bfb5d374d0543", func := "interlock/interlocklaw14.UndoKnown", spec := "undoKnown", inPlace := ["slices.overlaps[interlock/rows.Row]"], unfollowed := true, recurses := true, apart := false }
def UndoKnownSaid : Prop := undoKnownRow.holds Try.pinned (OpenSpec.ofChange undoKnownSpec)

/-- ITS FALSE NEIGHBOUR: 'it returns false'. Refute it at one input. -/
def undoKnownWrong : ChangeSpec := { name := "undoKnown", fn := fun _ => fun
  | [] => { results := [.lit (.bool false)], args := [] }
  | _ => none }
def UndoKnownWrongFalsely : Prop := undoKnownRow.holds Try.pinned (OpenSpec.ofChange undoKnownWrong)

/- THE SECOND FORM. 'bulk': how many values and letters a reading holds, each counted each time it is reached (what is shared counts as often as it is met; a slice's spare places count too). A statement '..UptoSaid' is the law's where the arguments, and the package variables that the reading takes, are together of bulk at most 1048576: NARROWER than '..Said'. Prove '..Said' where nothing that the law and all that it calls make is longer than what came in: it says more and counts as full. Else prove '..UptoSaid'. A law counts once. -/
mutual
def uptoBulk {H : Type} : DataW H → Nat
  | .lit (.string bytes) => bytes.length + 1
  | .lit _ => 1
  | .nil => 1
  | .ptr d => uptoBulk d + 1
  | .slice elems spare => uptoBulkAll elems + uptoBulkAll spare + 1
  | .agg parts => uptoBulkAll parts + 1
  | .iface _ d => uptoBulk d + 1
  | .map entries => uptoBulkEntries entries + 1
  | .held _ => 1
def uptoBulkAll {H : Type} : List (DataW H) → Nat
  | [] => 0
  | d :: r => uptoBulk d + uptoBulkAll r
def uptoBulkEntries {H : Type} : List (Lit × DataW H) → Nat
  | [] => 0
  | x :: r => uptoBulkEntry x + uptoBulkEntries r
def uptoBulkEntry {H : Type} : Lit × DataW H → Nat
  | (.string bytes, d) => bytes.length + uptoBulk d + 1
  | (_, d) => uptoBulk d + 1
 end
def uptoSmall : (H : Type) → List (DataW H) → Bool := fun _ ds => decide (uptoBulkAll ds ≤ 1048576)
def OpenSpec.upto (s : _root_.Go.ChangeSpec) : _root_.Go.OpenSpec := { _root_.Go.OpenSpec.ofChange s with cond := some uptoSmall }

/-- 'interlocklaw16.RunHangs', WHERE WHAT IT READS IS OF BULK AT MOST 1048576: true; the input reads as it did. -/
def runHangsUptoRow : OpenClaim := { program := "ytjpenaodkfljhaa", sum := "112649da696067fda62dde84f865724e5fa7fe5d99494021097bfb5d374d0543", func := "interlock/interlocklaw16.RunHangs", spec := "runHangs", inPlace := ["slices.overlaps[interlock/rows.Row]"], unfollowed := true, recurses := true, apart := false, narrowed := true }
def RunHangsUptoSaid : Prop := runHangsUptoRow.holds Try.pinned (OpenSpec.upto runHangsSpec)

/-- 'interlocklaw16.RunLooks', WHERE WHAT IT READS IS OF BULK AT MOST 1048576: true; the input reads as it did. -/
def runLooksUptoRow : OpenClaim := { program := "ytjpenaodkfljhaa", sum := "112649da696067fda62dde84f865724e5fa7fe5d99494021097bfb5d374d0543", func := "interlock/interlocklaw16.RunLooks", spec := "runLooks", inPlace := ["slices.overlaps[interlock/rows.Row]"], unfollowed := true, recurses := true, apart := false, narrowed := true }
def RunLooksUptoSaid : Prop := runLooksUptoRow.holds Try.pinned (OpenSpec.upto runLooksSpec)

/-- 'interlocklaw14.UndoPlays', WHERE WHAT IT READS IS OF BULK AT MOST 1048576: true; the input reads as it did. -/
def undoPlaysUptoRow : OpenClaim := { program := "ytjpenaodkfljhaa", sum := "112649da696067fda62dde84f865724e5fa7fe5d99494021097bfb5d374d0543", func := "interlock/interlocklaw14.UndoPlays", spec := "undoPlays", inPlace := ["slices.overlaps[interlock/rows.Row]"], unfollowed := true, recurses := true, apart := false, narrowed := true }
def UndoPlaysUptoSaid : Prop := undoPlaysUptoRow.holds Try.pinned (OpenSpec.upto undoPlaysSpec)

/-- 'interlocklaw14.UndoBack', WHERE WHAT IT READS IS OF BULK AT MOST 1048576: true; the input reads as it did. -/
def undoBackUptoRow : OpenClaim := { program := "ytjpenaodkfljhaa", sum := "112649da696067fda62dde84f865724e5fa7fe5d99494021097bfb5d374d0543", func := "interlock/interlocklaw14.UndoBack", spec := "undoBack", inPlace := ["slices.overlaps[interlock/rows.Row]"], unfollowed := true, recurses := true, apart := false, narrowed := true }
def UndoBackUptoSaid : Prop := undoBackUptoRow.holds Try.pinned (OpenSpec.upto undoBackSpec)

/-- 'interlocklaw14.UndoApart', WHERE WHAT IT READS IS OF BULK AT MOST 1048576: true; the input reads as it did. -/
def undoApartUptoRow : OpenClaim := { program := "ytjpenaodkfljhaa", sum := "112649da696067fda62dde84f865724e5fa7fe5d99494021097bfb5d374d0543", func := "interlock/interlocklaw14.UndoApart", spec := "undoApart", inPlace := ["slices.overlaps[interlock/rows.Row]"], unfollowed := true, recurses := true, apart := false, narrowed := true }
def UndoApartUptoSaid : Prop := undoApartUptoRow.holds Try.pinned (OpenSpec.upto undoApartSpec)

/-- 'interlocklaw14.UndoForgets', WHERE WHAT IT READS IS OF BULK AT MOST 1048576: true; the input reads as it did. -/
def undoForgetsUptoRow : OpenClaim := { program := "ytjpenaodkfljhaa", sum := "112649da696067fda62dde84f865724e5fa7fe5d99494021097bfb5d374d0543", func := "interlock/interlocklaw14.UndoForgets", spec := "undoForgets", inPlace := ["slices.overlaps[interlock/rows.Row]"], unfollowed := true, recurses := true, apart := false, narrowed := true }
def UndoForgetsUptoSaid : Prop := undoForgetsUptoRow.holds Try.pinned (OpenSpec.upto undoForgetsSpec)

/-- 'interlocklaw14.UndoKnown', WHERE WHAT IT READS IS OF BULK AT MOST 1048576: true; the input reads as it did. -/
def undoKnownUptoRow : OpenClaim := { program := "ytjpenaodkfljhaa", sum := "112649da696067fda62dde84f865724e5fa7fe5d99494021097bfb5d374d0543", func := "interlock/interlocklaw14.UndoKnown", spec := "undoKnown", inPlace := ["slices.overlaps[interlock/rows.Row]"], unfollowed := true, recurses := true, apart := false, narrowed := true }
def UndoKnownUptoSaid : Prop := undoKnownUptoRow.holds Try.pinned (OpenSpec.upto undoKnownSpec)

end Rows
end Go.Proofs.Ytjpenaodkfljhaa
