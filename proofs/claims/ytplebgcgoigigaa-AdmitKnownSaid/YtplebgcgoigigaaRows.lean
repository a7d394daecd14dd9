/-
  No cell of these rows narrows 'for every input' (looked for: loops, veiled, ifaces, maps, wideKeys, modest, calm, conditions, laid).
  DERIVED. THE GIVEN ROWS OF THIS SEAT. 5 by the template 'for every input the law returns true; each argument reads behind the call as it read before'; 0 by the template 'total and deterministic' (their statements: YtplebgcgoigigaaTotals.lean).
  GIVEN WITH THE SEED: the statements are not yours to turn. If you find one false, say at which input.
  Laid BY PROGRAM, IN A SANDBOX (cutbox-rows.mjs): the forced cells as the released guide's own fill.sh prints them over the translation c2592122b11ac8a8… (all of the seat's roots in one cut). By AI agents, Wed Nov 11 2026. No macro, syntax, notation, axiom, sorry.
-/
import Derived.Test.YtplebgcgoigigaaChecked
import GoSem.Claim
import GoSem.ClaimJoined
import GoSem.ClaimMapViews
import Derived.JoinedTies
import Derived.KernelRfl
namespace Go.Proofs.Ytplebgcgoigigaa
/- THE CELL 'sum', in the pinned program and in every row, IS THE sha256 OF THE DUMP (.gsa) THAT YtplebgcgoigigaaProg.lean LOADS. Nothing in Lean hashes anything: it is a label: what it is worth is what the hold of that sum in a sandbox is worth. -/
noncomputable def Try.pinned : Pinned := { name := "ytplebgcgoigigaa", sum := "c2592122b11ac8a80f17e3fc3e6b70c49f6f67d14cb97b2b2df2aa82c48056ce", checked := Try.checked }
namespace Rows
def none {H : Type} : Left H := { results := [], args := [] }

/-- 'interlocklaw17.AdmitMore': WHATEVER THE INPUT: true; the input reads as it did. -/
def admitMoreSpec : ChangeSpec := { name := "admitMore", fn := fun _ => fun
  | [d1, d2, d3, d4] => { results := [.lit (.bool true)], args := [d1, d2, d3, d4] }
  | _ => none }
def admitMoreRow : OpenClaim := { program := "ytplebgcgoigigaa", sum := "c2592122b11ac8a80f17e3fc3e6b70c49f6f67d14cb97b2b2df2aa82c48056ce", func := "interlock/interlocklaw17.AdmitMore", spec := "admitMore", unfollowed := true, recurses := true, apart := false }
def AdmitMoreSaid : Prop := admitMoreRow.holds Try.pinned (OpenSpec.ofChange admitMoreSpec)

/-- ITS FALSE NEIGHBOUR: 'it returns false'. Refute it at one input. -/
def admitMoreWrong : ChangeSpec := { name := "admitMore", fn := fun _ => fun
  | [d1, d2, d3, d4] => { results := [.lit (.bool false)], args := [d1, d2, d3, d4] }
  | _ => none }
def AdmitMoreWrongFalsely : Prop := admitMoreRow.holds Try.pinned (OpenSpec.ofChange admitMoreWrong)

/-- 'interlocklaw17.AdmitPlays': WHATEVER THE INPUT: true; the input reads as it did. -/
def admitPlaysSpec : ChangeSpec := { name := "admitPlays", fn := fun _ => fun
  | [d1, d2] => { results := [.lit (.bool true)], args := [d1, d2] }
  | _ => none }
def admitPlaysRow : OpenClaim := { program := "ytplebgcgoigigaa", sum := "c2592122b11ac8a80f17e3fc3e6b70c49f6f67d14cb97b2b2df2aa82c48056ce", func := "interlock/interlocklaw17.AdmitPlays", spec := "admitPlays", unfollowed := true, recurses := true, apart := false }
def AdmitPlaysSaid : Prop := admitPlaysRow.holds Try.pinned (OpenSpec.ofChange admitPlaysSpec)

/-- ITS FALSE NEIGHBOUR: 'it returns false'. Refute it at one input. -/
def admitPlaysWrong : ChangeSpec := { name := "admitPlays", fn := fun _ => fun
  | [d1, d2] => { results := [.lit (.bool false)], args := [d1, d2] }
  | _ => none }
def AdmitPlaysWrongFalsely : Prop := admitPlaysRow.holds Try.pinned (OpenSpec.ofChange admitPlaysWrong)

/-- 'interlocklaw17.AdmitFits': WHATEVER THE INPUT: true; the input reads as it did. -/
def admitFitsSpec : ChangeSpec := { name := "admitFits", fn := fun _ => fun
  | [d1, d2] => { results := [.lit (.bool true)], args := [d1, d2] }
  | _ => none }
def admitFitsRow : OpenClaim := { program := "ytplebgcgoigigaa", sum := "c2592122b11ac8a80f17e3fc3e6b70c49f6f67d14cb97b2b2df2aa82c48056ce", func := "interlock/interlocklaw17.AdmitFits", spec := "admitFits", unfollowed := true, recurses := true, apart := false }
def AdmitFitsSaid : Prop := admitFitsRow.holds Try.pinned (OpenSpec.ofChange admitFitsSpec)

/-- ITS FALSE NEIGHBOUR: 'it returns false'. Refute it at one input. -/
def admitFitsWrong : ChangeSpec := { name := "admitFits", fn := fun _ => fun
  | [d1, d2] => { results := [.lit (.bool false)], args := [d1, d2] }
  | _ => none }
def AdmitFitsWrongFalsely : Prop := admitFitsRow.holds Try.pinned (OpenSpec.ofChange admitFitsWrong)

/-- 'interlocklaw17.AdmitKnown': WHATEVER THE INPUT: true; the input reads as it did. -/
def admitKnownSpec : ChangeSpec := { name := "admitKnown", fn := fun _ => fun
  | [] => { results := [.lit (.bool true)], args := [] }
  | _ => none }
def admitKnownRow : OpenClaim := { program := "ytplebgcgoigigaa", sum := "c2592122b11ac8a80f17e3fc3e6b70c49f6f67d14cb97b2b2df2aa82c48056ce", func := "interlock/interlocklaw17.AdmitKnown", spec := "admitKnown", unfollowed := true, recurses := true, apart := false }
def AdmitKnownSaid : Prop := admitKnownRow.holds Try.pinned (OpenSpec.ofChange admitKnownSpec)

/-- ITS FALSE NEIGHBOUR: 'it returns false'. Refute it at one input. -/
def admitKnownWrong : ChangeSpec := { name := "admitKnown", fn := fun _ => fun
  | [] => { results := [.lit (.bool false)], args := [] }
  | _ => none }
def AdmitKnownWrongFalsely : Prop := admitKnownRow.holds Try.pinned (OpenSpec.ofChange admitKnownWrong)

/-- 'interlocklaw17.AdmitTurned': WHATEVER THE INPUT: true; the input reads as it did. -/
def admitTurnedSpec : ChangeSpec := { name := "admitTurned", fn := fun _ => fun
  | [d1, d2, d3] => { results := [.lit (.bool true)], args := [d1, d2, d3] }
  | _ => none }
def admitTurnedRow : OpenClaim := { program := "ytplebgcgoigigaa", sum := "c2592122b11ac8a80f17e3fc3e6b70c49f6f67d14cb97b2b2df2aa82c48056ce", func := "interlock/interlocklaw17.AdmitTurned", spec := "admitTurned", unfollowed := true, recurses := true, apart := false }
def AdmitTurnedSaid : Prop := admitTurnedRow.holds Try.pinned (OpenSpec.ofChange admitTurnedSpec)

/-- ITS FALSE NEIGHBOUR: 'it returns false'. Refute it at one input. -/
def admitTurnedWrong : ChangeSpec := { name := "admitTurned", fn := fun _ => fun
  | [d1, d2, d3] => { results := [.lit (.bool false)], args := [d1, d2, d3] }
  | _ => none }
def AdmitTurnedWrongFalsely : Prop := admitTurnedRow.holds Try.pinned (OpenSpec.ofChange admitTurnedWrong)

/- THE SECOND FORM. 'bulk': how many values and letters a reading holds, each counted each time it is reached (what is shared counts as often as it is met; a slice's spare places count too). A statement '..UptoSaid' is the law's where the arguments, and the package variables that the reading takes, are together of bulk at most 1048576: NARROWER than '..Said'. Prove '..Said' where nothing that the law and all that it calls make is longer than what came in: it says more and counts as full. Else prove '..UptoSaid'. A law counts once. -/
mutual
def uptoBulk {H : Type} : DataW H → Nat
  | .lit (.string bytes) => bytes.length + 1
  | .lit _ => 1
  | .nil => 1
  | .ptr d => uptoBulk d + 1
  | .slice elems spare => uptoBulkAll elems + uptoBulkAll spare + 1
  | .agg parts => uptoBulkAll parts + 1
  | .iface _ d => uptoBulk d + 1
  | .map entries => uptoBulkEntries entries + 1
  | .held _ => 1
def uptoBulkAll {H : Type} : List (DataW H) → Nat
  | [] => 0
  | d :: r => uptoBulk d + uptoBulkAll r
def uptoBulkEntries {H : Type} : List (Lit × DataW H) → Nat
  | [] => 0
  | x :: r => uptoBulkEntry x + uptoBulkEntries r
def uptoBulkEntry {H : Type} : Lit × DataW H → Nat
  | (.string bytes, d) => bytes.length + uptoBulk d + 1
  | (_, d) => uptoBulk d + 1
 end
def uptoSmall : (H : Type) → List (DataW H) → Bool := fun _ ds => decide (uptoBulkAll ds ≤ 1048576)
def OpenSpec.upto (s : _root_.Go.ChangeSpec) : _root_.Go.OpenSpec := { _root_.Go.OpenSpec.ofChange s with cond := some uptoSmall }

/-- 'interlocklaw17.AdmitMore', WHERE WHAT IT READS IS OF BULK AT MOST 1048576: true; the input reads as it did. -/
def admitMoreUptoRow : OpenClaim := { program := "ytplebgcgoigigaa", sum := "c2592122b11ac8a80f17e3fc3e6b70c49f6f67d14cb97b2b2df2aa82c48056ce", func := "interlock/interlocklaw17.AdmitMore", spec := "admitMore", unfollowed := true, recurses := true, apart := false, narrowed := true }
def AdmitMoreUptoSaid : Prop := admitMoreUptoRow.holds Try.pinned (OpenSpec.upto admitMoreSpec)

/-- 'interlocklaw17.AdmitPlays', WHERE WHAT IT READS IS OF BULK AT MOST 1048576: true; the input reads as it did. -/
def admitPlaysUptoRow : OpenClaim := { program := "ytplebgcgoigigaa", sum := "c2592122b11ac8a80f17e3fc3e6b70c49f6f67d14cb97b2b2df2aa82c48056ce", func := "interlock/interlocklaw17.AdmitPlays", spec := "admitPlays", unfollowed := true, recurses := true, apart := false, narrowed := true }
def AdmitPlaysUptoSaid : Prop := admitPlaysUptoRow.holds Try.pinned (OpenSpec.upto admitPlaysSpec)

/-- 'interlocklaw17.AdmitFits', WHERE WHAT IT READS IS OF BULK AT MOST 1048576: true; the input reads as it did. -/
def admitFitsUptoRow : OpenClaim := { program := "ytplebgcgoigigaa", sum := "c2592122b11ac8a80f17e3fc3e6b70c49f6f67d14cb97b2b2df2aa82c48056ce", func := "interlock/interlocklaw17.AdmitFits", spec := "admitFits", unfollowed := true, recurses := true, apart := false, narrowed := true }
def AdmitFitsUptoSaid : Prop := admitFitsUptoRow.holds Try.pinned (OpenSpec.upto admitFitsSpec)

/-- 'interlocklaw17.AdmitKnown', WHERE WHAT IT READS IS OF BULK AT MOST 1048576: true; the input reads as it did. -/
def admitKnownUptoRow : OpenClaim := { program := "ytplebgcgoigigaa", sum := "c2592122b11ac8a80f17e3fc3e6b70c49f6f67d14cb97b2b2df2aa82c48056ce", func := "interlock/interlocklaw17.AdmitKnown", spec := "admitKnown", unfollowed := true, recurses := true, apart := false, narrowed := true }
def AdmitKnownUptoSaid : Prop := admitKnownUptoRow.holds Try.pinned (OpenSpec.upto admitKnownSpec)

/-- 'interlocklaw17.AdmitTurned', WHERE WHAT IT READS IS OF BULK AT MOST 1048576: true; the input reads as it did. -/
def admitTurnedUptoRow : OpenClaim := { program := "ytplebgcgoigigaa", sum := "c2592122b11ac8a80f17e3fc3e6b70c49f6f67d14cb97b2b2df2aa82c48056ce", func := "interlock/interlocklaw17.AdmitTurned", spec := "admitTurned", unfollowed := true, recurses := true, apart := false, narrowed := true }
def AdmitTurnedUptoSaid : Prop := admitTurnedUptoRow.holds Try.pinned (OpenSpec.upto admitTurnedSpec)

end Rows
end Go.Proofs.Ytplebgcgoigigaa
