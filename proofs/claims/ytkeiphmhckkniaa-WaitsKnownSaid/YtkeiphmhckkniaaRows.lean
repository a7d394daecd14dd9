/-
  No cell of these rows narrows 'for every input' (looked for: loops, veiled, ifaces, maps, wideKeys, modest, calm, conditions, laid).
  DERIVED. THE GIVEN ROWS OF THIS SEAT. 7 by the template 'for every input the law returns true; each argument reads behind the call as it read before'; 0 by the template 'total and deterministic' (their statements: YtkeiphmhckkniaaTotals.lean).
  GIVEN WITH THE SEED: the statements are not yours to turn. If you find one false, say at which input.
  Laid BY PROGRAM, IN A SANDBOX (cutbox-rows.mjs): the forced cells as the released guide's own fill.sh prints them over the translation 17f4e8f09d39b442… (all of the seat's roots in one cut). By AI agents, Wed Nov 11 2026. No macro, syntax, notation, axiom, sorry.
-/
import Derived.Test.YtkeiphmhckkniaaChecked
import GoSem.Claim
import GoSem.ClaimJoined
import GoSem.ClaimMapViews
import Derived.JoinedTies
import Derived.KernelRfl
namespace Go.Proofs.Ytkeiphmhckkniaa
/- THE CELL 'sum', in the pinned program and in every row, IS THE sha256 OF THE DUMP (.gsa) THAT YtkeiphmhckkniaaProg.lean LOADS. Nothing in Lean hashes anything: it is a label: what it is worth is what the hold of that sum in a sandbox is worth. -/
noncomputable def Try.pinned : Pinned := { name := "ytkeiphmhckkniaa", sum := "17f4e8f09d39b44287bce9e9dd054b68d8bdfc2d4f4e257abd06499ddd8861b8", checked := Try.checked }
namespace Rows
def none {H : Type} : Left H := { results := [], args := [] }

/-- 'interlocklaw12.WaitsAny': WHATEVER THE INPUT: true; the input reads as it did. -/
def waitsAnySpec : ChangeSpec := { name := "waitsAny", fn := fun _ => fun
  | [d1, d2] => { results := [.lit (.bool true)], args := [d1, d2] }
  | _ => none }
def waitsAnyRow : OpenClaim := { program := "ytkeiphmhckkniaa", sum := "17f4e8f09d39b44287bce9e9dd054b68d8bdfc2d4f4e257abd06499ddd8861b8", func := "interlock/interlocklaw12.WaitsAny", spec := "waitsAny", unfollowed := true, recurses := true, apart := false }
def WaitsAnySaid : Prop := waitsAnyRow.holds Try.pinned (OpenSpec.ofChange waitsAnySpec)

/-- ITS FALSE NEIGHBOUR: 'it returns false'. Refute it at one input. -/
def waitsAnyWrong : ChangeSpec := { name := "waitsAny", fn := fun _ => fun
  | [d1, d2] => { results := [.lit (.bool false)], args := [d1, d2] }
  | _ => none }
def WaitsAnyWrongFalsely : Prop := waitsAnyRow.holds Try.pinned (OpenSpec.ofChange waitsAnyWrong)

/-- 'interlocklaw12.WaitsRings': WHATEVER THE INPUT: true; the input reads as it did. -/
def waitsRingsSpec : ChangeSpec := { name := "waitsRings", fn := fun _ => fun
  | [d] => { results := [.lit (.bool true)], args := [d] }
  | _ => none }
def waitsRingsRow : OpenClaim := { program := "ytkeiphmhckkniaa", sum := "17f4e8f09d39b44287bce9e9dd054b68d8bdfc2d4f4e257abd06499ddd8861b8", func := "interlock/interlocklaw12.WaitsRings", spec := "waitsRings", unfollowed := true, recurses := true, apart := false }
def WaitsRingsSaid : Prop := waitsRingsRow.holds Try.pinned (OpenSpec.ofChange waitsRingsSpec)

/-- ITS FALSE NEIGHBOUR: 'it returns false'. Refute it at one input. -/
def waitsRingsWrong : ChangeSpec := { name := "waitsRings", fn := fun _ => fun
  | [d] => { results := [.lit (.bool false)], args := [d] }
  | _ => none }
def WaitsRingsWrongFalsely : Prop := waitsRingsRow.holds Try.pinned (OpenSpec.ofChange waitsRingsWrong)

/-- 'interlocklaw12.WaitsParts': WHATEVER THE INPUT: true; the input reads as it did. -/
def waitsPartsSpec : ChangeSpec := { name := "waitsParts", fn := fun _ => fun
  | [d] => { results := [.lit (.bool true)], args := [d] }
  | _ => none }
def waitsPartsRow : OpenClaim := { program := "ytkeiphmhckkniaa", sum := "17f4e8f09d39b44287bce9e9dd054b68d8bdfc2d4f4e257abd06499ddd8861b8", func := "interlock/interlocklaw12.WaitsParts", spec := "waitsParts", unfollowed := true, recurses := true, apart := false }
def WaitsPartsSaid : Prop := waitsPartsRow.holds Try.pinned (OpenSpec.ofChange waitsPartsSpec)

/-- ITS FALSE NEIGHBOUR: 'it returns false'. Refute it at one input. -/
def waitsPartsWrong : ChangeSpec := { name := "waitsParts", fn := fun _ => fun
  | [d] => { results := [.lit (.bool false)], args := [d] }
  | _ => none }
def WaitsPartsWrongFalsely : Prop := waitsPartsRow.holds Try.pinned (OpenSpec.ofChange waitsPartsWrong)

/-- 'interlocklaw12.WaitsSorted': WHATEVER THE INPUT: true; the input reads as it did. -/
def waitsSortedSpec : ChangeSpec := { name := "waitsSorted", fn := fun _ => fun
  | [d] => { results := [.lit (.bool true)], args := [d] }
  | _ => none }
def waitsSortedRow : OpenClaim := { program := "ytkeiphmhckkniaa", sum := "17f4e8f09d39b44287bce9e9dd054b68d8bdfc2d4f4e257abd06499ddd8861b8", func := "interlock/interlocklaw12.WaitsSorted", spec := "waitsSorted", unfollowed := true, recurses := true, apart := false }
def WaitsSortedSaid : Prop := waitsSortedRow.holds Try.pinned (OpenSpec.ofChange waitsSortedSpec)

/-- ITS FALSE NEIGHBOUR: 'it returns false'. Refute it at one input. -/
def waitsSortedWrong : ChangeSpec := { name := "waitsSorted", fn := fun _ => fun
  | [d] => { results := [.lit (.bool false)], args := [d] }
  | _ => none }
def WaitsSortedWrongFalsely : Prop := waitsSortedRow.holds Try.pinned (OpenSpec.ofChange waitsSortedWrong)

/-- 'interlocklaw12.WaitsTurned': WHATEVER THE INPUT: true; the input reads as it did. -/
def waitsTurnedSpec : ChangeSpec := { name := "waitsTurned", fn := fun _ => fun
  | [d] => { results := [.lit (.bool true)], args := [d] }
  | _ => none }
def waitsTurnedRow : OpenClaim := { program := "ytkeiphmhckkniaa", sum := "17f4e8f09d39b44287bce9e9dd054b68d8bdfc2d4f4e257abd06499ddd8861b8", func := "interlock/interlocklaw12.WaitsTurned", spec := "waitsTurned", unfollowed := true, recurses := true, apart := false }
def WaitsTurnedSaid : Prop := waitsTurnedRow.holds Try.pinned (OpenSpec.ofChange waitsTurnedSpec)

/-- ITS FALSE NEIGHBOUR: 'it returns false'. Refute it at one input. -/
def waitsTurnedWrong : ChangeSpec := { name := "waitsTurned", fn := fun _ => fun
  | [d] => { results := [.lit (.bool false)], args := [d] }
  | _ => none }
def WaitsTurnedWrongFalsely : Prop := waitsTurnedRow.holds Try.pinned (OpenSpec.ofChange waitsTurnedWrong)

/-- 'interlocklaw12.WaitsSame': WHATEVER THE INPUT: true; the input reads as it did. -/
def waitsSameSpec : ChangeSpec := { name := "waitsSame", fn := fun _ => fun
  | [d1, d2, d3] => { results := [.lit (.bool true)], args := [d1, d2, d3] }
  | _ => none }
def waitsSameRow : OpenClaim := { program := "ytkeiphmhckkniaa", sum := "17f4e8f09d39b44287bce9e9dd054b68d8bdfc2d4f4e257abd06499ddd8861b8", func := "interlock/interlocklaw12.WaitsSame", spec := "waitsSame", unfollowed := true, recurses := true, apart := false }
def WaitsSameSaid : Prop := waitsSameRow.holds Try.pinned (OpenSpec.ofChange waitsSameSpec)

/-- ITS FALSE NEIGHBOUR: 'it returns false'. Refute it at one input. -/
def waitsSameWrong : ChangeSpec := { name := "waitsSame", fn := fun _ => fun
  | [d1, d2, d3] => { results := [.lit (.bool false)], args := [d1, d2, d3] }
  | _ => none }
def WaitsSameWrongFalsely : Prop := waitsSameRow.holds Try.pinned (OpenSpec.ofChange waitsSameWrong)

/-- 'interlocklaw12.WaitsKnown': WHATEVER THE INPUT: true; the input reads as it did. -/
def waitsKnownSpec : ChangeSpec := { name := "waitsKnown", fn := fun _ => fun
  | [] => { results := [.lit (.bool true)], args := [] }
  | _ => none }
def waitsKnownRow : OpenClaim := { program := "ytkeiphmhckkniaa", sum := "17f4e8f09d39b44287bce9e9dd054b68d8bdfc2d4f4e257abd06499ddd8861b8", func := "interlock/interlocklaw12.WaitsKnown", spec := "waitsKnown", unfollowed := true, recurses := true, apart := false }
def WaitsKnownSaid : Prop := waitsKnownRow.holds Try.pinned (OpenSpec.ofChange waitsKnownSpec)

/-- ITS FALSE NEIGHBOUR: 'it returns false'. Refute it at one input. -/
def waitsKnownWrong : ChangeSpec := { name := "waitsKnown", fn := fun _ => fun
  | [] => { results := [.lit (.bool false)], args := [] }
  | _ => none }
def WaitsKnownWrongFalsely : Prop := waitsKnownRow.holds Try.pinned (OpenSpec.ofChange waitsKnownWrong)

/- THE SECOND FORM. 'bulk': how many values and letters a reading holds, each counted each time it is reached (what is shared counts as often as it is met; a slice's spare places count too). A statement '..UptoSaid' is the law's where the arguments, and the package variables that the reading takes, are together of bulk at most 1048576: NARROWER than '..Said'. Prove '..Said' where nothing that the law and all that it calls make is longer than what came in: it says more and counts as full. Else prove '..UptoSaid'. A law counts once. -/
mutual
def uptoBulk {H : Type} : DataW H → Nat
  | .lit (.string bytes) => bytes.length + 1
  | .lit _ => 1
  | .nil => 1
  | .ptr d => uptoBulk d + 1
  | .slice elems spare => uptoBulkAll elems + uptoBulkAll spare + 1
  | .agg parts => uptoBulkAll parts + 1
  | .iface _ d => uptoBulk d + 1
  | .map entries => uptoBulkEntries entries + 1
  | .held _ => 1
def uptoBulkAll {H : Type} : List (DataW H) → Nat
  | [] => 0
  | d :: r => uptoBulk d + uptoBulkAll r
def uptoBulkEntries {H : Type} : List (Lit × DataW H) → Nat
  | [] => 0
  | x :: r => uptoBulkEntry x + uptoBulkEntries r
def uptoBulkEntry {H : Type} : Lit × DataW H → Nat
  | (.string bytes, d) => bytes.length + uptoBulk d + 1
  | (_, d) => uptoBulk d + 1
 end
def uptoSmall : (H : Type) → List (DataW H) → Bool := fun _ ds => decide (uptoBulkAll ds ≤ 1048576)
def OpenSpec.upto (s : _root_.Go.ChangeSpec) : _root_.Go.OpenSpec := { _root_.Go.OpenSpec.ofChange s with cond := some uptoSmall }

/-- 'interlocklaw12.WaitsAny', WHERE WHAT IT READS IS OF BULK AT MOST 1048576: true; the input reads as it did. -/
def waitsAnyUptoRow : OpenClaim := { program := "ytkeiphmhckkniaa", sum := "17f4e8f09d39b44287bce9e9dd054b68d8bdfc2d4f4e257abd06499ddd8861b8", func := "interlock/interlocklaw12.WaitsAny", spec := "waitsAny", unfollowed := true, recurses := true, apart := false, narrowed := true }
def WaitsAnyUptoSaid : Prop := waitsAnyUptoRow.holds Try.pinned (OpenSpec.upto waitsAnySpec)

/-- 'interlocklaw12.WaitsRings', WHERE WHAT IT READS IS OF BULK AT MOST 1048576: true; the input reads as it did. -/
def waitsRingsUptoRow : OpenClaim := { program := "ytkeiphmhckkniaa", sum := "17f4e8f09d39b44287bce9e9dd054b68d8bdfc2d4f4e257abd06499ddd8861b8", func := "interlock/interlocklaw12.WaitsRings", spec := "waitsRings", unfollowed := true, recurses := true, apart := false, narrowed := true }
def WaitsRingsUptoSaid : Prop := waitsRingsUptoRow.holds Try.pinned (OpenSpec.upto waitsRingsSpec)

/-- 'interlocklaw12.WaitsParts', WHERE WHAT IT READS IS OF BULK AT MOST 1048576: true; the input reads as it did. -/
def waitsPartsUptoRow : OpenClaim := { program := "ytkeiphmhckkniaa", sum := "17f4e8f09d39b44287bce9e9dd054b68d8bdfc2d4f4e257abd06499ddd8861b8", func := "interlock/interlocklaw12.WaitsParts", spec := "waitsParts", unfollowed := true, recurses := true, apart := false, narrowed := true }
def WaitsPartsUptoSaid : Prop := waitsPartsUptoRow.holds Try.pinned (OpenSpec.upto waitsPartsSpec)

/-- 'interlocklaw12.WaitsSorted', WHERE WHAT IT READS IS OF BULK AT MOST 1048576: true; the input reads as it did. -/
def waitsSortedUptoRow : OpenClaim := { program := "ytkeiphmhckkniaa", sum := "17f4e8f09d39b44287bce9e9dd054b68d8bdfc2d4f4e257abd06499ddd8861b8", func := "interlock/interlocklaw12.WaitsSorted", spec := "waitsSorted", unfollowed := true, recurses := true, apart := false, narrowed := true }
def WaitsSortedUptoSaid : Prop := waitsSortedUptoRow.holds Try.pinned (OpenSpec.upto waitsSortedSpec)

/-- 'interlocklaw12.WaitsTurned', WHERE WHAT IT READS IS OF BULK AT MOST 1048576: true; the input reads as it did. -/
def waitsTurnedUptoRow : OpenClaim := { program := "ytkeiphmhckkniaa", sum := "17f4e8f09d39b44287bce9e9dd054b68d8bdfc2d4f4e257abd06499ddd8861b8", func := "interlock/interlocklaw12.WaitsTurned", spec := "waitsTurned", unfollowed := true, recurses := true, apart := false, narrowed := true }
def WaitsTurnedUptoSaid : Prop := waitsTurnedUptoRow.holds Try.pinned (OpenSpec.upto waitsTurnedSpec)

/-- 'interlocklaw12.WaitsSame', WHERE WHAT IT READS IS OF BULK AT MOST 1048576: true; the input reads as it did. -/
def waitsSameUptoRow : OpenClaim := { program := "ytkeiphmhckkniaa", sum := "17f4e8f09d39b44287bce9e9dd054b68d8bdfc2d4f4e257abd06499ddd8861b8", func := "interlock/interlocklaw12.WaitsSame", spec := "waitsSame", unfollowed := true, recurses := true, apart := false, narrowed := true }
def WaitsSameUptoSaid : Prop := waitsSameUptoRow.holds Try.pinned (OpenSpec.upto waitsSameSpec)

/-- 'interlocklaw12.WaitsKnown', WHERE WHAT IT READS IS OF BULK AT MOST 1048576: true; the input reads as it did. -/
def waitsKnownUptoRow : OpenClaim := { program := "ytkeiphmhckkniaa", sum := "17f4e8f09d39b44287bce9e9dd054b68d8bdfc2d4f4e257abd06499ddd8861b8", func := "interlock/interlocklaw12.WaitsKnown", spec := "waitsKnown", unfollowed := true, recurses := true, apart := false, narrowed := true }
def WaitsKnownUptoSaid : Prop := waitsKnownUptoRow.holds Try.pinned (OpenSpec.upto waitsKnownSpec)

end Rows
end Go.Proofs.Ytkeiphmhckkniaa
