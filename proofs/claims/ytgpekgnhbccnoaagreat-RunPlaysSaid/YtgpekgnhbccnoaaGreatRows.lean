/-
  No cell of these rows narrows 'for every input' (looked for: loops, veiled, ifaces, maps, wideKeys, modest, calm, conditions, laid).
  DERIVED. THE GIVEN ROWS OF THIS SEAT. 3 by the template 'for every input the law returns true; each argument reads behind the call as it read before'; 0 by the template 'total and deterministic' (their statements: YtgpekgnhbccnoaaGreatTotals.lean).
  GIVEN WITH THE SEED: the statements are not yours to turn. If you find one false, say at which input.
  Laid BY PROGRAM, IN A SANDBOX (cutbox-rows.mjs): the forced cells as the released guide's own fill.sh prints them over the translation 0b0b5e40c5d167fc… (all of the seat's roots in one cut). By AI agents, Wed Nov 11 2026. No macro, syntax, notation, axiom, sorry.
-/
import Derived.Test.YtgpekgnhbccnoaaGreatChecked
import GoSem.Claim
import GoSem.ClaimJoined
import GoSem.ClaimMapViews
import Derived.JoinedTies
import Derived.KernelRfl
namespace Go.Proofs.YtgpekgnhbccnoaaGreat
/- THE CELL 'sum', in the pinned program and in every row, IS THE sha256 OF THE DUMP (.gsa) THAT YtgpekgnhbccnoaaGreatProg.lean LOADS. Nothing in Lean hashes anything: it is a label: what it is worth is what the hold of that sum in a sandbox is worth. -/
noncomputable def Tryz.pinned : Pinned := { name := "ytgpekgnhbccnoaagreat", sum := "0b0b5e40c5d167fcc7caa0d1e9704b732bf8e4d1ad148b16894fdbb2455be9e9", checked := Tryz.checked }
namespace Rows
def none {H : Type} : Left H := { results := [], args := [] }

/-- 'interlocklaw16.RunPlays': WHATEVER THE INPUT: true; the input reads as it did. -/
def runPlaysSpec : ChangeSpec := { name := "runPlays", fn := fun _ => fun
  | [d1, d2, d3, d4, d5, d6, d7] => { results := [.lit (.bool true)], args := [d1, d2, d3, d4, d5, d6, d7] }
  | _ => none }
def runPlaysRow : OpenClaim := { program := "ytgpekgnhbccnoaagreat", sum := "0b0b5e40c5d167fcc7caa0d1e9704b732bf8e4d1ad148b16894fdbb2455be9e9", func := "interlock/interlocklaw16.RunPlays", spec := "runPlays", inPlace := ["slices.overlaps[interlock/rows.Row]"], unfollowed := true, recurses := true, apart := false }
def RunPlaysSaid : Prop := runPlaysRow.holds Tryz.pinned (OpenSpec.ofChange runPlaysSpec)

/-- ITS FALSE NEIGHBOUR: 'it returns false'. Refute it at one input. -/
def runPlaysWrong : ChangeSpec := { name := "runPlays", fn := fun _ => fun
  | [d1, d2, d3, d4, d5, d6, d7] => { results := [.lit (.bool false)], args := [d1, d2, d3, d4, d5, d6, d7] }
  | _ => none }
def RunPlaysWrongFalsely : Prop := runPlaysRow.holds Tryz.pinned (OpenSpec.ofChange runPlaysWrong)

/-- 'interlocklaw16.RunBack': WHATEVER THE INPUT: true; the input reads as it did. -/
def runBackSpec : ChangeSpec := { name := "runBack", fn := fun _ => fun
  | [d1, d2, d3, d4, d5, d6] => { results := [.lit (.bool true)], args := [d1, d2, d3, d4, d5, d6] }
  | _ => none }
def runBackRow : OpenClaim := { program := "ytgpekgnhbccnoaagreat", sum := "0b0b5e40c5d167fcc7caa0d1e9704b732bf8e4d1ad148b16894fdbb2455be9e9", func := "interlock/interlocklaw16.RunBack", spec := "runBack", inPlace := ["slices.overlaps[interlock/rows.Row]"], unfollowed := true, recurses := true, apart := false }
def RunBackSaid : Prop := runBackRow.holds Tryz.pinned (OpenSpec.ofChange runBackSpec)

/-- ITS FALSE NEIGHBOUR: 'it returns false'. Refute it at one input. -/
def runBackWrong : ChangeSpec := { name := "runBack", fn := fun _ => fun
  | [d1, d2, d3, d4, d5, d6] => { results := [.lit (.bool false)], args := [d1, d2, d3, d4, d5, d6] }
  | _ => none }
def RunBackWrongFalsely : Prop := runBackRow.holds Tryz.pinned (OpenSpec.ofChange runBackWrong)

/-- 'interlocklaw16.RunKnown': WHATEVER THE INPUT: true; the input reads as it did. -/
def runKnownSpec : ChangeSpec := { name := "runKnown", fn := fun _ => fun
  | [] => { results := [.lit (.bool true)], args := [] }
  | _ => none }
def runKnownRow : OpenClaim := { program := "ytgpekgnhbccnoaagreat", sum := "0b0b5e40c5d167fcc7caa0d1e9704b732bf8e4d1ad148b16894fdbb2455be9e9", func := "interlock/interlocklaw16.RunKnown", spec := "runKnown", inPlace := ["slices.overlaps[interlock/rows.Row]"], unfollowed := true, recurses := true, apart := false }
def RunKnownSaid : Prop := runKnownRow.holds Tryz.pinned (OpenSpec.ofChange runKnownSpec)

/-- ITS FALSE NEIGHBOUR: 'it returns false'. Refute it at one input. -/
def runKnownWrong : ChangeSpec := { name := "runKnown", fn := fun _ => fun
  | [] => { results := [.lit (.bool false)], args := [] }
  | _ => none }
def RunKnownWrongFalsely : Prop := runKnownRow.holds Tryz.pinned (OpenSpec.ofChange runKnownWrong)

/- THE SECOND FORM. 'bulk': how many values and letters a reading holds, each counted each time it is reached (what is shared counts as often as it is met; a slice's spare places count too). A statement '..UptoSaid' is the law's where the arguments, and the package variables that the reading takes, are together of bulk at most 1048576: NARROWER than '..Said'. Prove '..Said' where nothing that the law and all that it calls make is longer than what came in: it says more and counts as full. Else prove '..UptoSaid'. A law counts once. -/
mutual
def uptoBulk {H : Type} : DataW H → Nat
  | .lit (.string bytes) => bytes.length + 1
  | .lit _ => 1
  | .nil => 1
  | .ptr d => uptoBulk d + 1
  | .slice elems spare => uptoBulkAll elems + uptoBulkAll spare + 1
  | .agg parts => uptoBulkAll parts + 1
  | .iface _ d => uptoBulk d + 1
  | .map entries => uptoBulkEntries entries + 1
  | .held _ => 1
def uptoBulkAll {H : Type} : List (DataW H) → Nat
  | [] => 0
  | d :: r => uptoBulk d + uptoBulkAll r
def uptoBulkEntries {H : Type} : List (Lit × DataW H) → Nat
  | [] => 0
  | x :: r => uptoBulkEntry x + uptoBulkEntries r
def uptoBulkEntry {H : Type} : Lit × DataW H → Nat
  | (.string bytes, d) => bytes.length + uptoBulk d + 1
  | (_, d) => uptoBulk d + 1
 end
def uptoSmall : (H : Type) → List (DataW H) → Bool := fun _ ds => decide (uptoBulkAll ds ≤ 1048576)
def OpenSpec.upto (s : _root_.Go.ChangeSpec) : _root_.Go.OpenSpec := { _root_.Go.OpenSpec.ofChange s with cond := some uptoSmall }

/-- 'interlocklaw16.RunPlays', WHERE WHAT IT READS IS OF BULK AT MOST 1048576: true; the input reads as it did. -/
def runPlaysUptoRow : OpenClaim := { program := "ytgpekgnhbccnoaagreat", sum := "0b0b5e40c5d167fcc7caa0d1e9704b732bf8e4d1ad148b16894fdbb2455be9e9", func := "interlock/interlocklaw16.RunPlays", spec := "runPlays", inPlace := ["slices.overlaps[interlock/rows.Row]"], unfollowed := true, recurses := true, apart := false, narrowed := true }
def RunPlaysUptoSaid : Prop := runPlaysUptoRow.holds Tryz.pinned (OpenSpec.upto runPlaysSpec)

/-- 'interlocklaw16.RunBack', WHERE WHAT IT READS IS OF BULK AT MOST 1048576: true; the input reads as it did. -/
def runBackUptoRow : OpenClaim := { program := "ytgpekgnhbccnoaagreat", sum := "0b0b5e40c5d167fcc7caa0d1e9704b732bf8e4d1ad148b16894fdbb2455be9e9", func := "interlock/interlocklaw16.RunBack", spec := "runBack", inPlace := ["slices.overlaps[interlock/rows.Row]"], unfollowed := true, recurses := true, apart := false, narrowed := true }
def RunBackUptoSaid : Prop := runBackUptoRow.holds Tryz.pinned (OpenSpec.upto runBackSpec)

/-- 'interlocklaw16.RunKnown', WHERE WHAT IT READS IS OF BULK AT MOST 1048576: true; the input reads as it did. -/
def runKnownUptoRow : OpenClaim := { program := "ytgpekgnhbccnoaagreat", sum := "0b0b5e40c5d167fcc7caa0d1e9704b732bf8e4d1ad148b16894fdbb2455be9e9", func := "interlock/interlocklaw16.RunKnown", spec := "runKnown", inPlace := ["slices.overlaps[interlock/rows.Row]"], unfollowed := true, recurses := true, apart := false, narrowed := true }
def RunKnownUptoSaid : Prop := runKnownUptoRow.holds Tryz.pinned (OpenSpec.upto runKnownSpec)

end Rows
end Go.Proofs.YtgpekgnhbccnoaaGreat
