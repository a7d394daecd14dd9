/-
  No cell of these rows narrows 'for every input' (looked for: loops, veiled, ifaces, maps, wideKeys, modest, calm, conditions, laid).
  DERIVED. THE GIVEN ROWS OF THIS SEAT. 5 by the template 'for every input the law returns true; each argument reads behind the call as it read before'; 0 by the template 'total and deterministic' (their statements: YtljgifjokdppgaaTotals.lean).
  GIVEN WITH THE SEED: the statements are not yours to turn. If you find one false, say at which input.
  Laid BY PROGRAM, IN A SANDBOX (cutbox-rows.mjs): the forced cells as the released guide's own fill.sh prints them over the translation b0de88cc2ef36995… (all of the seat's roots in one cut). By AI agents, Wed Nov 11 2026. No macro, syntax, notation, axiom, sorry.
-/
import Derived.Test.YtljgifjokdppgaaChecked
import GoSem.Claim
import GoSem.ClaimJoined
import GoSem.ClaimMapViews
import Derived.JoinedTies
import Derived.KernelRfl
namespace Go.Proofs.Ytljgifjokdppgaa
/- THE CELL 'sum', in the pinned program and in every row, IS THE sha256 OF THE DUMP (.gsa) THAT YtljgifjokdppgaaProg.lean LOADS. Nothing in Lean hashes anything: it is a label: what it is worth is what the hold of that sum in a sandbox is worth. -/
noncomputable def Try.pinned : Pinned := { name := "ytljgifjokdppgaa", sum := "b0de88cc2ef36995968cc6bd0f7044995f26310a4756598270be258c25c68045", checked := Try.checked }
namespace Rows
def none {H : Type} : Left H := { results := [], args := [] }

/-- 'interlocklaw13.RowsSums': WHATEVER THE INPUT: true; the input reads as it did. -/
def rowsSumsSpec : ChangeSpec := { name := "rowsSums", fn := fun _ => fun
  | [d1, d2, d3] => { results := [.lit (.bool true)], args := [d1, d2, d3] }
  | _ => none }
def rowsSumsRow : OpenClaim := { program := "ytljgifjokdppgaa", sum := "b0de88cc2ef36995968cc6bd0f7044995f26310a4756598270be258c25c68045", func := "interlock/interlocklaw13.RowsSums", spec := "rowsSums", inPlace := ["slices.overlaps[interlock/rows.Row]"], unfollowed := true, recurses := true, apart := false }
def RowsSumsSaid : Prop := rowsSumsRow.holds Try.pinned (OpenSpec.ofChange rowsSumsSpec)

/-- ITS FALSE NEIGHBOUR: 'it returns false'. Refute it at one input. -/
def rowsSumsWrong : ChangeSpec := { name := "rowsSums", fn := fun _ => fun
  | [d1, d2, d3] => { results := [.lit (.bool false)], args := [d1, d2, d3] }
  | _ => none }
def RowsSumsWrongFalsely : Prop := rowsSumsRow.holds Try.pinned (OpenSpec.ofChange rowsSumsWrong)

/-- 'interlocklaw13.RowsKeeps': WHATEVER THE INPUT: true; the input reads as it did. -/
def rowsKeepsSpec : ChangeSpec := { name := "rowsKeeps", fn := fun _ => fun
  | [d1, d2, d3] => { results := [.lit (.bool true)], args := [d1, d2, d3] }
  | _ => none }
def rowsKeepsRow : OpenClaim := { program := "ytljgifjokdppgaa", sum := "b0de88cc2ef36995968cc6bd0f7044995f26310a4756598270be258c25c68045", func := "interlock/interlocklaw13.RowsKeeps", spec := "rowsKeeps", inPlace := ["slices.overlaps[interlock/rows.Row]"], unfollowed := true, recurses := true, apart := false }
def RowsKeepsSaid : Prop := rowsKeepsRow.holds Try.pinned (OpenSpec.ofChange rowsKeepsSpec)

/-- ITS FALSE NEIGHBOUR: 'it returns false'. Refute it at one input. -/
def rowsKeepsWrong : ChangeSpec := { name := "rowsKeeps", fn := fun _ => fun
  | [d1, d2, d3] => { results := [.lit (.bool false)], args := [d1, d2, d3] }
  | _ => none }
def RowsKeepsWrongFalsely : Prop := rowsKeepsRow.holds Try.pinned (OpenSpec.ofChange rowsKeepsWrong)

/-- 'interlocklaw13.RowsSame': WHATEVER THE INPUT: true; the input reads as it did. -/
def rowsSameSpec : ChangeSpec := { name := "rowsSame", fn := fun _ => fun
  | [d1, d2, d3] => { results := [.lit (.bool true)], args := [d1, d2, d3] }
  | _ => none }
def rowsSameRow : OpenClaim := { program := "ytljgifjokdppgaa", sum := "b0de88cc2ef36995968cc6bd0f7044995f26310a4756598270be258c25c68045", func := "interlock/interlocklaw13.RowsSame", spec := "rowsSame", inPlace := ["slices.overlaps[interlock/rows.Row]"], unfollowed := true, recurses := true, apart := false }
def RowsSameSaid : Prop := rowsSameRow.holds Try.pinned (OpenSpec.ofChange rowsSameSpec)

/-- ITS FALSE NEIGHBOUR: 'it returns false'. Refute it at one input. -/
def rowsSameWrong : ChangeSpec := { name := "rowsSame", fn := fun _ => fun
  | [d1, d2, d3] => { results := [.lit (.bool false)], args := [d1, d2, d3] }
  | _ => none }
def RowsSameWrongFalsely : Prop := rowsSameRow.holds Try.pinned (OpenSpec.ofChange rowsSameWrong)

/-- 'interlocklaw13.RowsPlays': WHATEVER THE INPUT: true; the input reads as it did. -/
def rowsPlaysSpec : ChangeSpec := { name := "rowsPlays", fn := fun _ => fun
  | [d1, d2] => { results := [.lit (.bool true)], args := [d1, d2] }
  | _ => none }
def rowsPlaysRow : OpenClaim := { program := "ytljgifjokdppgaa", sum := "b0de88cc2ef36995968cc6bd0f7044995f26310a4756598270be258c25c68045", func := "interlock/interlocklaw13.RowsPlays", spec := "rowsPlays", inPlace := ["slices.overlaps[interlock/rows.Row]"], unfollowed := true, recurses := true, apart := false }
def RowsPlaysSaid : Prop := rowsPlaysRow.holds Try.pinned (OpenSpec.ofChange rowsPlaysSpec)

/-- ITS FALSE NEIGHBOUR: 'it returns false'. Refute it at one input. -/
def rowsPlaysWrong : ChangeSpec := { name := "rowsPlays", fn := fun _ => fun
  | [d1, d2] => { results := [.lit (.bool false)], args := [d1, d2] }
  | _ => none }
def RowsPlaysWrongFalsely : Prop := rowsPlaysRow.holds Try.pinned (OpenSpec.ofChange rowsPlaysWrong)

/-- 'interlocklaw13.RowsKnown': WHATEVER THE INPUT: true; the input reads as it did. -/
def rowsKnownSpec : ChangeSpec := { name := "rowsKnown", fn := fun _ => fun
  | [] => { results := [.lit (.bool true)], args := [] }
  | _ => none }
def rowsKnownRow : OpenClaim := { program := "ytljgifjokdppgaa", sum := "b0de88cc2ef36995968cc6bd0f7044995f26310a4756598270be258c25c68045", func := "interlock/interlocklaw13.RowsKnown", spec := "rowsKnown", inPlace := ["slices.overlaps[interlock/rows.Row]"], unfollowed := true, recurses := true, apart := false }
def RowsKnownSaid : Prop := rowsKnownRow.holds Try.pinned (OpenSpec.ofChange rowsKnownSpec)

/-- ITS FALSE NEIGHBOUR: 'it returns false'. Refute it at one input. -/
def rowsKnownWrong : ChangeSpec := { name := "rowsKnown", fn := fun _ => fun
  | [] => { results := [.lit (.bool false)], args := [] }
  | _ => none }
def RowsKnownWrongFalsely : Prop := rowsKnownRow.holds Try.pinned (OpenSpec.ofChange rowsKnownWrong)

/- THE SECOND FORM. 'bulk': how many values and letters a reading holds, each counted each time it is reached (what is shared counts as often as it is met; a slice's spare places count too). A statement '..UptoSaid' is the law's where the arguments, and the package variables that the reading takes, are together of bulk at most 1048576: NARROWER than '..Said'. Prove '..Said' where nothing that the law and all that it calls make is longer than what came in: it says more and counts as full. Else prove '..UptoSaid'. A law counts once. -/
mutual
def uptoBulk {H : Type} : DataW H → Nat
  | .lit (.string bytes) => bytes.length + 1
  | .lit _ => 1
  | .nil => 1
  | .ptr d => uptoBulk d + 1
  | .slice elems spare => uptoBulkAll elems + uptoBulkAll spare + 1
  | .agg parts => uptoBulkAll parts + 1
  | .iface _ d => uptoBulk d + 1
  | .map entries => uptoBulkEntries entries + 1
  | .held _ => 1
def uptoBulkAll {H : Type} : List (DataW H) → Nat
  | [] => 0
  | d :: r => uptoBulk d + uptoBulkAll r
def uptoBulkEntries {H : Type} : List (Lit × DataW H) → Nat
  | [] => 0
  | x :: r => uptoBulkEntry x + uptoBulkEntries r
def uptoBulkEntry {H : Type} : Lit × DataW H → Nat
  | (.string bytes, d) => bytes.length + uptoBulk d + 1
  | (_, d) => uptoBulk d + 1
 end
def uptoSmall : (H : Type) → List (DataW H) → Bool := fun _ ds => decide (uptoBulkAll ds ≤ 1048576)
def OpenSpec.upto (s : _root_.Go.ChangeSpec) : _root_.Go.OpenSpec := { _root_.Go.OpenSpec.ofChange s with cond := some uptoSmall }

/-- 'interlocklaw13.RowsSums', WHERE WHAT IT READS IS OF BULK AT MOST 1048576: true; the input reads as it did. -/
def rowsSumsUptoRow : OpenClaim := { program := "ytljgifjokdppgaa", sum := "b0de88cc2ef36995968cc6bd0f7044995f26310a4756598270be258c25c68045", func := "interlock/interlocklaw13.RowsSums", spec := "rowsSums", inPlace := ["slices.overlaps[interlock/rows.Row]"], unfollowed := true, recurses := true, apart := false, narrowed := true }
def RowsSumsUptoSaid : Prop := rowsSumsUptoRow.holds Try.pinned (OpenSpec.upto rowsSumsSpec)

/-- 'interlocklaw13.RowsKeeps', WHERE WHAT IT READS IS OF BULK AT MOST 1048576: true; the input reads as it did. -/
def rowsKeepsUptoRow : OpenClaim := { program := "ytljgifjokdppgaa", sum := "b0de88cc2ef36995968cc6bd0f7044995f26310a4756598270be258c25c68045", func := "interlock/interlocklaw13.RowsKeeps", spec := "rowsKeeps", inPlace := ["slices.overlaps[interlock/rows.Row]"], unfollowed := true, recurses := true, apart := false, narrowed := true }
def RowsKeepsUptoSaid : Prop := rowsKeepsUptoRow.holds Try.pinned (OpenSpec.upto rowsKeepsSpec)

/-- 'interlocklaw13.RowsSame', WHERE WHAT IT READS IS OF BULK AT MOST 1048576: true; the input reads as it did. -/
def rowsSameUptoRow : OpenClaim := { program := "ytljgifjokdppgaa", sum := "b0de88cc2ef36995968cc6bd0f7044995f26310a4756598270be258c25c68045", func := "interlock/interlocklaw13.RowsSame", spec := "rowsSame", inPlace := ["slices.overlaps[interlock/rows.Row]"], unfollowed := true, recurses := true, apart := false, narrowed := true }
def RowsSameUptoSaid : Prop := rowsSameUptoRow.holds Try.pinned (OpenSpec.upto rowsSameSpec)

/-- 'interlocklaw13.RowsPlays', WHERE WHAT IT READS IS OF BULK AT MOST 1048576: true; the input reads as it did. -/
def rowsPlaysUptoRow : OpenClaim := { program := "ytljgifjokdppgaa", sum := "b0de88cc2ef36995968cc6bd0f7044995f26310a4756598270be258c25c68045", func := "interlock/interlocklaw13.RowsPlays", spec := "rowsPlays", inPlace := ["slices.overlaps[interlock/rows.Row]"], unfollowed := true, recurses := true, apart := false, narrowed := true }
def RowsPlaysUptoSaid : Prop := rowsPlaysUptoRow.holds Try.pinned (OpenSpec.upto rowsPlaysSpec)

/-- 'interlocklaw13.RowsKnown', WHERE WHAT IT READS IS OF BULK AT MOST 1048576: true; the input reads as it did. -/
def rowsKnownUptoRow : OpenClaim := { program := "ytljgifjokdppgaa", sum := "b0de88cc2ef36995968cc6bd0f7044995f26310a4756598270be258c25c68045", func := "interlock/interlocklaw13.RowsKnown", spec := "rowsKnown", inPlace := ["slices.overlaps[interlock/rows.Row]"], unfollowed := true, recurses := true, apart := false, narrowed := true }
def RowsKnownUptoSaid : Prop := rowsKnownUptoRow.holds Try.pinned (OpenSpec.upto rowsKnownSpec)

end Rows
end Go.Proofs.Ytljgifjokdppgaa
