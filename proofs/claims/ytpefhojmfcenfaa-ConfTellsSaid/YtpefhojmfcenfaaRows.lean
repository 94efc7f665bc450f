/-
  No cell of these rows narrows 'for every input' (looked for: loops, veiled, ifaces, maps, wideKeys, modest, calm, conditions, laid).
  DERIVED. THE GIVEN ROWS OF THIS SEAT. 12 by the template 'for every input the law returns true; each argument reads behind the call as it read before'; 0 by the template 'total and deterministic' (their statements: YtpefhojmfcenfaaTotals.lean).
  GIVEN WITH THE SEED: the statements are not yours to turn. If you find one false, say at which input.
  Laid BY PROGRAM, IN A SANDBOX (cutbox-rows.mjs): the forced cells as the released guide's own fill.sh prints them over the translation efa0b9846f7a36ab… (all of the seat's roots in one cut). By AI agents, Wed Nov 11 2026. No macro, syntax, notation, axiom, sorry.
-/
import Derived.Test.YtpefhojmfcenfaaChecked
import GoSem.Claim
import GoSem.ClaimJoined
import GoSem.ClaimMapViews
import Derived.JoinedTies
import Derived.KernelRfl
namespace Go.Proofs.Ytpefhojmfcenfaa
/- THE CELL 'sum', in the pinned program and in every row, IS THE sha256 OF THE DUMP (.gsa) THAT YtpefhojmfcenfaaProg.lean LOADS. Nothing in Lean hashes anything: it is a label: what it is worth is what the hold of that sum in a sandbox is worth. -/
noncomputable def Try.pinned : Pinned := { name := "ytpefhojmfcenfaa", sum := "efa0b9846f7a36ab3083dfbcb9a6f94bbc64c572982f2ac585aaeffe61cceee0", checked := Try.checked }
namespace Rows
def none {H : Type} : Left H := { results := [], args := [] }

/-- 'wapentakelaw11.LogsAgree': WHATEVER THE INPUT: true; the input reads as it did. -/
def logsAgreeSpec : ChangeSpec := { name := "logsAgree", fn := fun _ => fun
  | [d1, d2, d3, d4, d5, d6, d7, d8, d9] => { results := [.lit (.bool true)], args := [d1, d2, d3, d4, d5, d6, d7, d8, d9] }
  | _ => none }
def logsAgreeRow : OpenClaim := { program := "ytpefhojmfcenfaa", sum := "efa0b9846f7a36ab3083dfbcb9a6f94bbc64c572982f2ac585aaeffe61cceee0", func := "wapentake/wapentakelaw11.LogsAgree", spec := "logsAgree", apart := false }
def LogsAgreeSaid : Prop := logsAgreeRow.holds Try.pinned (OpenSpec.ofChange logsAgreeSpec)

/-- ITS FALSE NEIGHBOUR: 'it returns false'. Refute it at one input. -/
def logsAgreeWrong : ChangeSpec := { name := "logsAgree", fn := fun _ => fun
  | [d1, d2, d3, d4, d5, d6, d7, d8, d9] => { results := [.lit (.bool false)], args := [d1, d2, d3, d4, d5, d6, d7, d8, d9] }
  | _ => none }
def LogsAgreeWrongFalsely : Prop := logsAgreeRow.holds Try.pinned (OpenSpec.ofChange logsAgreeWrong)

/-- 'wapentakelaw11.LogsPut': WHATEVER THE INPUT: true; the input reads as it did. -/
def logsPutSpec : ChangeSpec := { name := "logsPut", fn := fun _ => fun
  | [d1, d2, d3, d4, d5, d6, d7] => { results := [.lit (.bool true)], args := [d1, d2, d3, d4, d5, d6, d7] }
  | _ => none }
def logsPutRow : OpenClaim := { program := "ytpefhojmfcenfaa", sum := "efa0b9846f7a36ab3083dfbcb9a6f94bbc64c572982f2ac585aaeffe61cceee0", func := "wapentake/wapentakelaw11.LogsPut", spec := "logsPut", apart := false }
def LogsPutSaid : Prop := logsPutRow.holds Try.pinned (OpenSpec.ofChange logsPutSpec)

/-- ITS FALSE NEIGHBOUR: 'it returns false'. Refute it at one input. -/
def logsPutWrong : ChangeSpec := { name := "logsPut", fn := fun _ => fun
  | [d1, d2, d3, d4, d5, d6, d7] => { results := [.lit (.bool false)], args := [d1, d2, d3, d4, d5, d6, d7] }
  | _ => none }
def LogsPutWrongFalsely : Prop := logsPutRow.holds Try.pinned (OpenSpec.ofChange logsPutWrong)

/-- 'wapentakelaw11.LogsOwn': WHATEVER THE INPUT: true; the input reads as it did. -/
def logsOwnSpec : ChangeSpec := { name := "logsOwn", fn := fun _ => fun
  | [d1, d2, d3, d4] => { results := [.lit (.bool true)], args := [d1, d2, d3, d4] }
  | _ => none }
def logsOwnRow : OpenClaim := { program := "ytpefhojmfcenfaa", sum := "efa0b9846f7a36ab3083dfbcb9a6f94bbc64c572982f2ac585aaeffe61cceee0", func := "wapentake/wapentakelaw11.LogsOwn", spec := "logsOwn", apart := false }
def LogsOwnSaid : Prop := logsOwnRow.holds Try.pinned (OpenSpec.ofChange logsOwnSpec)

/-- ITS FALSE NEIGHBOUR: 'it returns false'. Refute it at one input. -/
def logsOwnWrong : ChangeSpec := { name := "logsOwn", fn := fun _ => fun
  | [d1, d2, d3, d4] => { results := [.lit (.bool false)], args := [d1, d2, d3, d4] }
  | _ => none }
def LogsOwnWrongFalsely : Prop := logsOwnRow.holds Try.pinned (OpenSpec.ofChange logsOwnWrong)

/-- 'wapentakelaw11.LogsCut': WHATEVER THE INPUT: true; the input reads as it did. -/
def logsCutSpec : ChangeSpec := { name := "logsCut", fn := fun _ => fun
  | [d1, d2, d3, d4, d5, d6, d7] => { results := [.lit (.bool true)], args := [d1, d2, d3, d4, d5, d6, d7] }
  | _ => none }
def logsCutRow : OpenClaim := { program := "ytpefhojmfcenfaa", sum := "efa0b9846f7a36ab3083dfbcb9a6f94bbc64c572982f2ac585aaeffe61cceee0", func := "wapentake/wapentakelaw11.LogsCut", spec := "logsCut", unfollowed := true, recurses := true, apart := false }
def LogsCutSaid : Prop := logsCutRow.holds Try.pinned (OpenSpec.ofChange logsCutSpec)

/-- ITS FALSE NEIGHBOUR: 'it returns false'. Refute it at one input. -/
def logsCutWrong : ChangeSpec := { name := "logsCut", fn := fun _ => fun
  | [d1, d2, d3, d4, d5, d6, d7] => { results := [.lit (.bool false)], args := [d1, d2, d3, d4, d5, d6, d7] }
  | _ => none }
def LogsCutWrongFalsely : Prop := logsCutRow.holds Try.pinned (OpenSpec.ofChange logsCutWrong)

/-- 'wapentakelaw11.LogsPlays': WHATEVER THE INPUT: true; the input reads as it did. -/
def logsPlaysSpec : ChangeSpec := { name := "logsPlays", fn := fun _ => fun
  | [d1, d2, d3, d4, d5, d6, d7] => { results := [.lit (.bool true)], args := [d1, d2, d3, d4, d5, d6, d7] }
  | _ => none }
def logsPlaysRow : OpenClaim := { program := "ytpefhojmfcenfaa", sum := "efa0b9846f7a36ab3083dfbcb9a6f94bbc64c572982f2ac585aaeffe61cceee0", func := "wapentake/wapentakelaw11.LogsPlays", spec := "logsPlays", unfollowed := true, recurses := true, apart := false }
def LogsPlaysSaid : Prop := logsPlaysRow.holds Try.pinned (OpenSpec.ofChange logsPlaysSpec)

/-- ITS FALSE NEIGHBOUR: 'it returns false'. Refute it at one input. -/
def logsPlaysWrong : ChangeSpec := { name := "logsPlays", fn := fun _ => fun
  | [d1, d2, d3, d4, d5, d6, d7] => { results := [.lit (.bool false)], args := [d1, d2, d3, d4, d5, d6, d7] }
  | _ => none }
def LogsPlaysWrongFalsely : Prop := logsPlaysRow.holds Try.pinned (OpenSpec.ofChange logsPlaysWrong)

/-- 'wapentakelaw11.LogsNobody': WHATEVER THE INPUT: true; the input reads as it did. -/
def logsNobodySpec : ChangeSpec := { name := "logsNobody", fn := fun _ => fun
  | [d] => { results := [.lit (.bool true)], args := [d] }
  | _ => none }
def logsNobodyRow : OpenClaim := { program := "ytpefhojmfcenfaa", sum := "efa0b9846f7a36ab3083dfbcb9a6f94bbc64c572982f2ac585aaeffe61cceee0", func := "wapentake/wapentakelaw11.LogsNobody", spec := "logsNobody", unfollowed := true, recurses := true, apart := false }
def LogsNobodySaid : Prop := logsNobodyRow.holds Try.pinned (OpenSpec.ofChange logsNobodySpec)

/-- ITS FALSE NEIGHBOUR: 'it returns false'. Refute it at one input. -/
def logsNobodyWrong : ChangeSpec := { name := "logsNobody", fn := fun _ => fun
  | [d] => { results := [.lit (.bool false)], args := [d] }
  | _ => none }
def LogsNobodyWrongFalsely : Prop := logsNobodyRow.holds Try.pinned (OpenSpec.ofChange logsNobodyWrong)

/-- 'wapentakelaw11.LogsKnown': WHATEVER THE INPUT: true; the input reads as it did. -/
def logsKnownSpec : ChangeSpec := { name := "logsKnown", fn := fun _ => fun
  | [] => { results := [.lit (.bool true)], args := [] }
  | _ => none }
def logsKnownRow : OpenClaim := { program := "ytpefhojmfcenfaa", sum := "efa0b9846f7a36ab3083dfbcb9a6f94bbc64c572982f2ac585aaeffe61cceee0", func := "wapentake/wapentakelaw11.LogsKnown", spec := "logsKnown", unfollowed := true, recurses := true, apart := false }
def LogsKnownSaid : Prop := logsKnownRow.holds Try.pinned (OpenSpec.ofChange logsKnownSpec)

/-- ITS FALSE NEIGHBOUR: 'it returns false'. Refute it at one input. -/
def logsKnownWrong : ChangeSpec := { name := "logsKnown", fn := fun _ => fun
  | [] => { results := [.lit (.bool false)], args := [] }
  | _ => none }
def LogsKnownWrongFalsely : Prop := logsKnownRow.holds Try.pinned (OpenSpec.ofChange logsKnownWrong)

/-- 'wapentakelaw10.ConfLevels': WHATEVER THE INPUT: true; the input reads as it did. -/
def confLevelsSpec : ChangeSpec := { name := "confLevels", fn := fun _ => fun
  | [d1, d2, d3, d4] => { results := [.lit (.bool true)], args := [d1, d2, d3, d4] }
  | _ => none }
def confLevelsRow : OpenClaim := { program := "ytpefhojmfcenfaa", sum := "efa0b9846f7a36ab3083dfbcb9a6f94bbc64c572982f2ac585aaeffe61cceee0", func := "wapentake/wapentakelaw10.ConfLevels", spec := "confLevels", recurses := true, apart := false }
def ConfLevelsSaid : Prop := confLevelsRow.holds Try.pinned (OpenSpec.ofChange confLevelsSpec)

/-- ITS FALSE NEIGHBOUR: 'it returns false'. Refute it at one input. -/
def confLevelsWrong : ChangeSpec := { name := "confLevels", fn := fun _ => fun
  | [d1, d2, d3, d4] => { results := [.lit (.bool false)], args := [d1, d2, d3, d4] }
  | _ => none }
def ConfLevelsWrongFalsely : Prop := confLevelsRow.holds Try.pinned (OpenSpec.ofChange confLevelsWrong)

/-- 'wapentakelaw10.ConfMeets': WHATEVER THE INPUT: true; the input reads as it did. -/
def confMeetsSpec : ChangeSpec := { name := "confMeets", fn := fun _ => fun
  | [d1, d2, d3, d4] => { results := [.lit (.bool true)], args := [d1, d2, d3, d4] }
  | _ => none }
def confMeetsRow : OpenClaim := { program := "ytpefhojmfcenfaa", sum := "efa0b9846f7a36ab3083dfbcb9a6f94bbc64c572982f2ac585aaeffe61cceee0", func := "wapentake/wapentakelaw10.ConfMeets", spec := "confMeets", recurses := true, apart := false }
def ConfMeetsSaid : Prop := confMeetsRow.holds Try.pinned (OpenSpec.ofChange confMeetsSpec)

/-- ITS FALSE NEIGHBOUR: 'it returns false'. Refute it at one input. -/
def confMeetsWrong : ChangeSpec := { name := "confMeets", fn := fun _ => fun
  | [d1, d2, d3, d4] => { results := [.lit (.bool false)], args := [d1, d2, d3, d4] }
  | _ => none }
def ConfMeetsWrongFalsely : Prop := confMeetsRow.holds Try.pinned (OpenSpec.ofChange confMeetsWrong)

/-- 'wapentakelaw10.ConfTells': WHATEVER THE INPUT: true; the input reads as it did. -/
def confTellsSpec : ChangeSpec := { name := "confTells", fn := fun _ => fun
  | [d1, d2, d3, d4, d5, d6] => { results := [.lit (.bool true)], args := [d1, d2, d3, d4, d5, d6] }
  | _ => none }
def confTellsRow : OpenClaim := { program := "ytpefhojmfcenfaa", sum := "efa0b9846f7a36ab3083dfbcb9a6f94bbc64c572982f2ac585aaeffe61cceee0", func := "wapentake/wapentakelaw10.ConfTells", spec := "confTells", recurses := true, apart := false }
def ConfTellsSaid : Prop := confTellsRow.holds Try.pinned (OpenSpec.ofChange confTellsSpec)

/-- ITS FALSE NEIGHBOUR: 'it returns false'. Refute it at one input. -/
def confTellsWrong : ChangeSpec := { name := "confTells", fn := fun _ => fun
  | [d1, d2, d3, d4, d5, d6] => { results := [.lit (.bool false)], args := [d1, d2, d3, d4, d5, d6] }
  | _ => none }
def ConfTellsWrongFalsely : Prop := confTellsRow.holds Try.pinned (OpenSpec.ofChange confTellsWrong)

/-- 'wapentakelaw10.ConfKnown': WHATEVER THE INPUT: true; the input reads as it did. -/
def confKnownSpec : ChangeSpec := { name := "confKnown", fn := fun _ => fun
  | [] => { results := [.lit (.bool true)], args := [] }
  | _ => none }
def confKnownRow : OpenClaim := { program := "ytpefhojmfcenfaa", sum := "efa0b9846f7a36ab3083dfbcb9a6f94bbc64c572982f2ac585aaeffe61cceee0", func := "wapentake/wapentakelaw10.ConfKnown", spec := "confKnown", recurses := true, apart := false }
def ConfKnownSaid : Prop := confKnownRow.holds Try.pinned (OpenSpec.ofChange confKnownSpec)

/-- ITS FALSE NEIGHBOUR: 'it returns false'. Refute it at one input. -/
def confKnownWrong : ChangeSpec := { name := "confKnown", fn := fun _ => fun
  | [] => { results := [.lit (.bool false)], args := [] }
  | _ => none }
def ConfKnownWrongFalsely : Prop := confKnownRow.holds Try.pinned (OpenSpec.ofChange confKnownWrong)

/-- 'wapentakelaw10.ConfSteps': WHATEVER THE INPUT: true; the input reads as it did. -/
def confStepsSpec : ChangeSpec := { name := "confSteps", fn := fun _ => fun
  | [d1, d2, d3] => { results := [.lit (.bool true)], args := [d1, d2, d3] }
  | _ => none }
def confStepsRow : OpenClaim := { program := "ytpefhojmfcenfaa", sum := "efa0b9846f7a36ab3083dfbcb9a6f94bbc64c572982f2ac585aaeffe61cceee0", func := "wapentake/wapentakelaw10.ConfSteps", spec := "confSteps", recurses := true, apart := false }
def ConfStepsSaid : Prop := confStepsRow.holds Try.pinned (OpenSpec.ofChange confStepsSpec)

/-- ITS FALSE NEIGHBOUR: 'it returns false'. Refute it at one input. -/
def confStepsWrong : ChangeSpec := { name := "confSteps", fn := fun _ => fun
  | [d1, d2, d3] => { results := [.lit (.bool false)], args := [d1, d2, d3] }
  | _ => none }
def ConfStepsWrongFalsely : Prop := confStepsRow.holds Try.pinned (OpenSpec.ofChange confStepsWrong)

/- THE SECOND FORM. 'bulk': how many values and letters a reading holds, each counted each time it is reached (what is shared counts as often as it is met; a slice's spare places count too). A statement '..UptoSaid' is the law's where the arguments, and the package variables that the reading takes, are together of bulk at most 1048576: NARROWER than '..Said'. Prove '..Said' where nothing that the law and all that it calls make is longer than what came in: it says more and counts as full. Else prove '..UptoSaid'. A law counts once. -/
mutual
def uptoBulk {H : Type} : DataW H → Nat
  | .lit (.string bytes) => bytes.length + 1
  | .lit _ => 1
  | .nil => 1
  | .ptr d => uptoBulk d + 1
  | .slice elems spare => uptoBulkAll elems + uptoBulkAll spare + 1
  | .agg parts => uptoBulkAll parts + 1
  | .iface _ d => uptoBulk d + 1
  | .map entries => uptoBulkEntries entries + 1
  | .held _ => 1
def uptoBulkAll {H : Type} : List (DataW H) → Nat
  | [] => 0
  | d :: r => uptoBulk d + uptoBulkAll r
def uptoBulkEntries {H : Type} : List (Lit × DataW H) → Nat
  | [] => 0
  | x :: r => uptoBulkEntry x + uptoBulkEntries r
def uptoBulkEntry {H : Type} : Lit × DataW H → Nat
  | (.string bytes, d) => bytes.length + uptoBulk d + 1
  | (_, d) => uptoBulk d + 1
 end
def uptoSmall : (H : Type) → List (DataW H) → Bool := fun _ ds => decide (uptoBulkAll ds ≤ 1048576)
def OpenSpec.upto (s : _root_.Go.ChangeSpec) : _root_.Go.OpenSpec := { _root_.Go.OpenSpec.ofChange s with cond := some uptoSmall }

/-- 'wapentakelaw11.LogsAgree', WHERE WHAT IT READS IS OF BULK AT MOST 1048576: true; the input reads as it did. -/
def logsAgreeUptoRow : OpenClaim := { program := "ytpefhojmfcenfaa", sum := "efa0b9846f7a36ab3083dfbcb9a6f94bbc64c572982f2ac585aaeffe61cceee0", func := "wapentake/wapentakelaw11.LogsAgree", spec := "logsAgree", apart := false, narrowed := true }
def LogsAgreeUptoSaid : Prop := logsAgreeUptoRow.holds Try.pinned (OpenSpec.upto logsAgreeSpec)

/-- 'wapentakelaw11.LogsPut', WHERE WHAT IT READS IS OF BULK AT MOST 1048576: true; the input reads as it did. -/
def logsPutUptoRow : OpenClaim := { program := "ytpefhojmfcenfaa", sum := "efa0b9846f7a36ab3083dfbcb9a6f94bbc64c572982f2ac585aaeffe61cceee0", func := "wapentake/wapentakelaw11.LogsPut", spec := "logsPut", apart := false, narrowed := true }
def LogsPutUptoSaid : Prop := logsPutUptoRow.holds Try.pinned (OpenSpec.upto logsPutSpec)

/-- 'wapentakelaw11.LogsOwn', WHERE WHAT IT READS IS OF BULK AT MOST 1048576: true; the input reads as it did. -/
def logsOwnUptoRow : OpenClaim := { program := "ytpefhojmfcenfaa", sum := "efa0b9846f7a36ab3083dfbcb9a6f94bbc64c572982f2ac585aaeffe61cceee0", func := "wapentake/wapentakelaw11.LogsOwn", spec := "logsOwn", apart := false, narrowed := true }
def LogsOwnUptoSaid : Prop := logsOwnUptoRow.holds Try.pinned (OpenSpec.upto logsOwnSpec)

/-- 'wapentakelaw11.LogsCut', WHERE WHAT IT READS IS OF BULK AT MOST 1048576: true; the input reads as it did. -/
def logsCutUptoRow : OpenClaim := { program := "ytpefhojmfcenfaa", sum := "efa0b9846f7a36ab3083dfbcb9a6f94bbc64c572982f2ac585aaeffe61cceee0", func := "wapentake/wapentakelaw11.LogsCut", spec := "logsCut", unfollowed := true, recurses := true, apart := false, narrowed := true }
def LogsCutUptoSaid : Prop := logsCutUptoRow.holds Try.pinned (OpenSpec.upto logsCutSpec)

/-- 'wapentakelaw11.LogsPlays', WHERE WHAT IT READS IS OF BULK AT MOST 1048576: true; the input reads as it did. -/
def logsPlaysUptoRow : OpenClaim := { program := "ytpefhojmfcenfaa", sum := "efa0b9846f7a36ab3083dfbcb9a6f94bbc64c572982f2ac585aaeffe61cceee0", func := "wapentake/wapentakelaw11.LogsPlays", spec := "logsPlays", unfollowed := true, recurses := true, apart := false, narrowed := true }
def LogsPlaysUptoSaid : Prop := logsPlaysUptoRow.holds Try.pinned (OpenSpec.upto logsPlaysSpec)

/-- 'wapentakelaw11.LogsNobody', WHERE WHAT IT READS IS OF BULK AT MOST 1048576: true; the input reads as it did. -/
def logsNobodyUptoRow : OpenClaim := { program := "ytpefhojmfcenfaa", sum := "efa0b9846f7a36ab3083dfbcb9a6f94bbc64c572982f2ac585aaeffe61cceee0", func := "wapentake/wapentakelaw11.LogsNobody", spec := "logsNobody", unfollowed := true, recurses := true, apart := false, narrowed := true }
def LogsNobodyUptoSaid : Prop := logsNobodyUptoRow.holds Try.pinned (OpenSpec.upto logsNobodySpec)

/-- 'wapentakelaw11.LogsKnown', WHERE WHAT IT READS IS OF BULK AT MOST 1048576: true; the input reads as it did. -/
def logsKnownUptoRow : OpenClaim := { program := "ytpefhojmfcenfaa", sum := "efa0b9846f7a36ab3083dfbcb9a6f94bbc64c572982f2ac585aaeffe61cceee0", func := "wapentake/wapentakelaw11.LogsKnown", spec := "logsKnown", unfollowed := true, recurses := true, apart := false, narrowed := true }
def LogsKnownUptoSaid : Prop := logsKnownUptoRow.holds Try.pinned (OpenSpec.upto logsKnownSpec)

/-- 'wapentakelaw10.ConfLevels', WHERE WHAT IT READS IS OF BULK AT MOST 1048576: true; the input reads as it did. -/
def confLevelsUptoRow : OpenClaim := { program := "ytpefhojmfcenfaa", sum := "efa0b9846f7a36ab3083dfbcb9a6f94bbc64c572982f2ac585aaeffe61cceee0", func := "wapentake/wapentakelaw10.ConfLevels", spec := "confLevels", recurses := true, apart := false, narrowed := true }
def ConfLevelsUptoSaid : Prop := confLevelsUptoRow.holds Try.pinned (OpenSpec.upto confLevelsSpec)

/-- 'wapentakelaw10.ConfMeets', WHERE WHAT IT READS IS OF BULK AT MOST 1048576: true; the input reads as it did. -/
def confMeetsUptoRow : OpenClaim := { program := "ytpefhojmfcenfaa", sum := "efa0b9846f7a36ab3083dfbcb9a6f94bbc64c572982f2ac585aaeffe61cceee0", func := "wapentake/wapentakelaw10.ConfMeets", spec := "confMeets", recurses := true, apart := false, narrowed := true }
def ConfMeetsUptoSaid : Prop := confMeetsUptoRow.holds Try.pinned (OpenSpec.upto confMeetsSpec)

/-- 'wapentakelaw10.ConfTells', WHERE WHAT IT READS IS OF BULK AT MOST 1048576: true; the input reads as it did. -/
def confTellsUptoRow : OpenClaim := { program := "ytpefhojmfcenfaa", sum := "efa0b9846f7a36ab3083dfbcb9a6f94bbc64c572982f2ac585aaeffe61cceee0", func := "wapentake/wapentakelaw10.ConfTells", spec := "confTells", recurses := true, apart := false, narrowed := true }
def ConfTellsUptoSaid : Prop := confTellsUptoRow.holds Try.pinned (OpenSpec.upto confTellsSpec)

/-- 'wapentakelaw10.ConfKnown', WHERE WHAT IT READS IS OF BULK AT MOST 1048576: true; the input reads as it did. -/
def confKnownUptoRow : OpenClaim := { program := "ytpefhojmfcenfaa", sum := "efa0b9846f7a36ab3083dfbcb9a6f94bbc64c572982f2ac585aaeffe61cceee0", func := "wapentake/wapentakelaw10.ConfKnown", spec := "confKnown", recurses := true, apart := false, narrowed := true }
def ConfKnownUptoSaid : Prop := confKnownUptoRow.holds Try.pinned (OpenSpec.upto confKnownSpec)

/-- 'wapentakelaw10.ConfSteps', WHERE WHAT IT READS IS OF BULK AT MOST 1048576: true; the input reads as it did. -/
def confStepsUptoRow : OpenClaim := { program := "ytpefhojmfcenfaa", sum := "efa0b9846f7a36ab3083dfbcb9a6f94bbc64c572982f2ac585aaeffe61cceee0", func := "wapentake/wapentakelaw10.ConfSteps", spec := "confSteps", recurses := true, apart := false, narrowed := true }
def ConfStepsUptoSaid : Prop := confStepsUptoRow.holds Try.pinned (OpenSpec.upto confStepsSpec)

end Rows
end Go.Proofs.Ytpefhojmfcenfaa
