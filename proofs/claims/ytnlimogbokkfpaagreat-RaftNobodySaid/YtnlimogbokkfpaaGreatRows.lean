/-
  No cell of these rows narrows 'for every input' (looked for: loops, veiled, ifaces, maps, wideKeys, modest, calm, conditions, laid).
  DERIVED. THE GIVEN ROWS OF THIS SEAT. 6 by the template 'for every input the law returns true; each argument reads behind the call as it read before'; 0 by the template 'total and deterministic' (their statements: YtnlimogbokkfpaaGreatTotals.lean).
  GIVEN WITH THE SEED: the statements are not yours to turn. If you find one false, say at which input.
  Laid BY PROGRAM, IN A SANDBOX (cutbox-rows.mjs): the forced cells as the released guide's own fill.sh prints them over the translation bdd7eb452ee5acc7… (all of the seat's roots in one cut). By AI agents, Wed Nov 11 2026. No macro, syntax, notation, axiom, sorry.
-/
import Derived.Test.YtnlimogbokkfpaaGreatChecked
import GoSem.Claim
import GoSem.ClaimJoined
import GoSem.ClaimMapViews
import Derived.JoinedTies
import Derived.KernelRfl
namespace Go.Proofs.YtnlimogbokkfpaaGreat
/- THE CELL 'sum', in the pinned program and in every row, IS THE sha256 OF THE DUMP (.gsa) THAT YtnlimogbokkfpaaGreatProg.lean LOADS. Nothing in Lean hashes anything: it is a label: what it is worth is what the hold of that sum in a sandbox is worth. -/
noncomputable def Tryz.pinned : Pinned := { name := "ytnlimogbokkfpaagreat", sum := "bdd7eb452ee5acc7d8aed92d59e4cecac70ef09de5ed0162bfede896c15b3b0a", checked := Tryz.checked }
namespace Rows
def none {H : Type} : Left H := { results := [], args := [] }

/-- 'wapentakelaw14.RaftKnown': WHATEVER THE INPUT: true; the input reads as it did. -/
def raftKnownSpec : ChangeSpec := { name := "raftKnown", fn := fun _ => fun
  | [] => { results := [.lit (.bool true)], args := [] }
  | _ => none }
def raftKnownRow : OpenClaim := { program := "ytnlimogbokkfpaagreat", sum := "bdd7eb452ee5acc7d8aed92d59e4cecac70ef09de5ed0162bfede896c15b3b0a", func := "wapentake/wapentakelaw14.RaftKnown", spec := "raftKnown", unfollowed := true, recurses := true, apart := false }
def RaftKnownSaid : Prop := raftKnownRow.holds Tryz.pinned (OpenSpec.ofChange raftKnownSpec)

/-- ITS FALSE NEIGHBOUR: 'it returns false'. Refute it at one input. -/
def raftKnownWrong : ChangeSpec := { name := "raftKnown", fn := fun _ => fun
  | [] => { results := [.lit (.bool false)], args := [] }
  | _ => none }
def RaftKnownWrongFalsely : Prop := raftKnownRow.holds Tryz.pinned (OpenSpec.ofChange raftKnownWrong)

/-- 'wapentakelaw14.RaftKept': WHATEVER THE INPUT: true; the input reads as it did. -/
def raftKeptSpec : ChangeSpec := { name := "raftKept", fn := fun _ => fun
  | [d1, d2, d3] => { results := [.lit (.bool true)], args := [d1, d2, d3] }
  | _ => none }
def raftKeptRow : OpenClaim := { program := "ytnlimogbokkfpaagreat", sum := "bdd7eb452ee5acc7d8aed92d59e4cecac70ef09de5ed0162bfede896c15b3b0a", func := "wapentake/wapentakelaw14.RaftKept", spec := "raftKept", unfollowed := true, recurses := true, apart := false }
def RaftKeptSaid : Prop := raftKeptRow.holds Tryz.pinned (OpenSpec.ofChange raftKeptSpec)

/-- ITS FALSE NEIGHBOUR: 'it returns false'. Refute it at one input. -/
def raftKeptWrong : ChangeSpec := { name := "raftKept", fn := fun _ => fun
  | [d1, d2, d3] => { results := [.lit (.bool false)], args := [d1, d2, d3] }
  | _ => none }
def RaftKeptWrongFalsely : Prop := raftKeptRow.holds Tryz.pinned (OpenSpec.ofChange raftKeptWrong)

/-- 'wapentakelaw14.RaftBlind': WHATEVER THE INPUT: true; the input reads as it did. -/
def raftBlindSpec : ChangeSpec := { name := "raftBlind", fn := fun _ => fun
  | [d1, d2, d3, d4] => { results := [.lit (.bool true)], args := [d1, d2, d3, d4] }
  | _ => none }
def raftBlindRow : OpenClaim := { program := "ytnlimogbokkfpaagreat", sum := "bdd7eb452ee5acc7d8aed92d59e4cecac70ef09de5ed0162bfede896c15b3b0a", func := "wapentake/wapentakelaw14.RaftBlind", spec := "raftBlind", unfollowed := true, recurses := true, apart := false }
def RaftBlindSaid : Prop := raftBlindRow.holds Tryz.pinned (OpenSpec.ofChange raftBlindSpec)

/-- ITS FALSE NEIGHBOUR: 'it returns false'. Refute it at one input. -/
def raftBlindWrong : ChangeSpec := { name := "raftBlind", fn := fun _ => fun
  | [d1, d2, d3, d4] => { results := [.lit (.bool false)], args := [d1, d2, d3, d4] }
  | _ => none }
def RaftBlindWrongFalsely : Prop := raftBlindRow.holds Tryz.pinned (OpenSpec.ofChange raftBlindWrong)

/-- 'wapentakelaw14.RaftGrows': WHATEVER THE INPUT: true; the input reads as it did. -/
def raftGrowsSpec : ChangeSpec := { name := "raftGrows", fn := fun _ => fun
  | [d1, d2, d3] => { results := [.lit (.bool true)], args := [d1, d2, d3] }
  | _ => none }
def raftGrowsRow : OpenClaim := { program := "ytnlimogbokkfpaagreat", sum := "bdd7eb452ee5acc7d8aed92d59e4cecac70ef09de5ed0162bfede896c15b3b0a", func := "wapentake/wapentakelaw14.RaftGrows", spec := "raftGrows", unfollowed := true, recurses := true, apart := false }
def RaftGrowsSaid : Prop := raftGrowsRow.holds Tryz.pinned (OpenSpec.ofChange raftGrowsSpec)

/-- ITS FALSE NEIGHBOUR: 'it returns false'. Refute it at one input. -/
def raftGrowsWrong : ChangeSpec := { name := "raftGrows", fn := fun _ => fun
  | [d1, d2, d3] => { results := [.lit (.bool false)], args := [d1, d2, d3] }
  | _ => none }
def RaftGrowsWrongFalsely : Prop := raftGrowsRow.holds Tryz.pinned (OpenSpec.ofChange raftGrowsWrong)

/-- 'wapentakelaw14.RaftPlays': WHATEVER THE INPUT: true; the input reads as it did. -/
def raftPlaysSpec : ChangeSpec := { name := "raftPlays", fn := fun _ => fun
  | [d1, d2, d3, d4] => { results := [.lit (.bool true)], args := [d1, d2, d3, d4] }
  | _ => none }
def raftPlaysRow : OpenClaim := { program := "ytnlimogbokkfpaagreat", sum := "bdd7eb452ee5acc7d8aed92d59e4cecac70ef09de5ed0162bfede896c15b3b0a", func := "wapentake/wapentakelaw14.RaftPlays", spec := "raftPlays", unfollowed := true, recurses := true, apart := false }
def RaftPlaysSaid : Prop := raftPlaysRow.holds Tryz.pinned (OpenSpec.ofChange raftPlaysSpec)

/-- ITS FALSE NEIGHBOUR: 'it returns false'. Refute it at one input. -/
def raftPlaysWrong : ChangeSpec := { name := "raftPlays", fn := fun _ => fun
  | [d1, d2, d3, d4] => { results := [.lit (.bool false)], args := [d1, d2, d3, d4] }
  | _ => none }
def RaftPlaysWrongFalsely : Prop := raftPlaysRow.holds Tryz.pinned (OpenSpec.ofChange raftPlaysWrong)

/-- 'wapentakelaw14.RaftNobody': WHATEVER THE INPUT: true; the input reads as it did. -/
def raftNobodySpec : ChangeSpec := { name := "raftNobody", fn := fun _ => fun
  | [d] => { results := [.lit (.bool true)], args := [d] }
  | _ => none }
def raftNobodyRow : OpenClaim := { program := "ytnlimogbokkfpaagreat", sum := "bdd7eb452ee5acc7d8aed92d59e4cecac70ef09de5ed0162bfede896c15b3b0a", func := "wapentake/wapentakelaw14.RaftNobody", spec := "raftNobody", unfollowed := true, recurses := true, apart := false }
def RaftNobodySaid : Prop := raftNobodyRow.holds Tryz.pinned (OpenSpec.ofChange raftNobodySpec)

/-- ITS FALSE NEIGHBOUR: 'it returns false'. Refute it at one input. -/
def raftNobodyWrong : ChangeSpec := { name := "raftNobody", fn := fun _ => fun
  | [d] => { results := [.lit (.bool false)], args := [d] }
  | _ => none }
def RaftNobodyWrongFalsely : Prop := raftNobodyRow.holds Tryz.pinned (OpenSpec.ofChange raftNobodyWrong)

/- THE SECOND FORM. 'bulk': how many values and letters a reading holds, each counted each time it is reached (what is shared counts as often as it is met; a slice's spare places count too). A statement '..UptoSaid' is the law's where the arguments, and the package variables that the reading takes, are together of bulk at most 1048576: NARROWER than '..Said'. Prove '..Said' where nothing that the law and all that it calls make is longer than what came in: it says more and counts as full. Else prove '..UptoSaid'. A law counts once. -/
mutual
def uptoBulk {H : Type} : DataW H → Nat
  | .lit (.string bytes) => bytes.length + 1
  | .lit _ => 1
  | .nil => 1
  | .ptr d => uptoBulk d + 1
  | .slice elems spare => uptoBulkAll elems + uptoBulkAll spare + 1
  | .agg parts => uptoBulkAll parts + 1
  | .iface _ d => uptoBulk d + 1
  | .map entries => uptoBulkEntries entries + 1
  | .held _ => 1
def uptoBulkAll {H : Type} : List (DataW H) → Nat
  | [] => 0
  | d :: r => uptoBulk d + uptoBulkAll r
def uptoBulkEntries {H : Type} : List (Lit × DataW H) → Nat
  | [] => 0
  | x :: r => uptoBulkEntry x + uptoBulkEntries r
def uptoBulkEntry {H : Type} : Lit × DataW H → Nat
  | (.string bytes, d) => bytes.length + uptoBulk d + 1
  | (_, d) => uptoBulk d + 1
 end
def uptoSmall : (H : Type) → List (DataW H) → Bool := fun _ ds => decide (uptoBulkAll ds ≤ 1048576)
def OpenSpec.upto (s : _root_.Go.ChangeSpec) : _root_.Go.OpenSpec := { _root_.Go.OpenSpec.ofChange s with cond := some uptoSmall }

/-- 'wapentakelaw14.RaftKnown', WHERE WHAT IT READS IS OF BULK AT MOST 1048576: true; the input reads as it did. -/
def raftKnownUptoRow : OpenClaim := { program := "ytnlimogbokkfpaagreat", sum := "bdd7eb452ee5acc7d8aed92d59e4cecac70ef09de5ed0162bfede896c15b3b0a", func := "wapentake/wapentakelaw14.RaftKnown", spec := "raftKnown", unfollowed := true, recurses := true, apart := false, narrowed := true }
def RaftKnownUptoSaid : Prop := raftKnownUptoRow.holds Tryz.pinned (OpenSpec.upto raftKnownSpec)

/-- 'wapentakelaw14.RaftKept', WHERE WHAT IT READS IS OF BULK AT MOST 1048576: true; the input reads as it did. -/
def raftKeptUptoRow : OpenClaim := { program := "ytnlimogbokkfpaagreat", sum := "bdd7eb452ee5acc7d8aed92d59e4cecac70ef09de5ed0162bfede896c15b3b0a", func := "wapentake/wapentakelaw14.RaftKept", spec := "raftKept", unfollowed := true, recurses := true, apart := false, narrowed := true }
def RaftKeptUptoSaid : Prop := raftKeptUptoRow.holds Tryz.pinned (OpenSpec.upto raftKeptSpec)

/-- 'wapentakelaw14.RaftBlind', WHERE WHAT IT READS IS OF BULK AT MOST 1048576: true; the input reads as it did. -/
def raftBlindUptoRow : OpenClaim := { program := "ytnlimogbokkfpaagreat", sum := "bdd7eb452ee5acc7d8aed92d59e4cecac70ef09de5ed0162bfede896c15b3b0a", func := "wapentake/wapentakelaw14.RaftBlind", spec := "raftBlind", unfollowed := true, recurses := true, apart := false, narrowed := true }
def RaftBlindUptoSaid : Prop := raftBlindUptoRow.holds Tryz.pinned (OpenSpec.upto raftBlindSpec)

/-- 'wapentakelaw14.RaftGrows', WHERE WHAT IT READS IS OF BULK AT MOST 1048576: true; the input reads as it did. -/
def raftGrowsUptoRow : OpenClaim := { program := "ytnlimogbokkfpaagreat", sum := "bdd7eb452ee5acc7d8aed92d59e4cecac70ef09de5ed0162bfede896c15b3b0a", func := "wapentake/wapentakelaw14.RaftGrows", spec := "raftGrows", unfollowed := true, recurses := true, apart := false, narrowed := true }
def RaftGrowsUptoSaid : Prop := raftGrowsUptoRow.holds Tryz.pinned (OpenSpec.upto raftGrowsSpec)

/-- 'wapentakelaw14.RaftPlays', WHERE WHAT IT READS IS OF BULK AT MOST 1048576: true; the input reads as it did. -/
def raftPlaysUptoRow : OpenClaim := { program := "ytnlimogbokkfpaagreat", sum := "bdd7eb452ee5acc7d8aed92d59e4cecac70ef09de5ed0162bfede896c15b3b0a", func := "wapentake/wapentakelaw14.RaftPlays", spec := "raftPlays", unfollowed := true, recurses := true, apart := false, narrowed := true }
def RaftPlaysUptoSaid : Prop := raftPlaysUptoRow.holds Tryz.pinned (OpenSpec.upto raftPlaysSpec)

/-- 'wapentakelaw14.RaftNobody', WHERE WHAT IT READS IS OF BULK AT MOST 1048576: true; the input reads as it did. -/
def raftNobodyUptoRow : OpenClaim := { program := "ytnlimogbokkfpaagreat", sum := "bdd7eb452ee5acc7d8aed92d59e4cecac70ef09de5ed0162bfede896c15b3b0a", func := "wapentake/wapentakelaw14.RaftNobody", spec := "raftNobody", unfollowed := true, recurses := true, apart := false, narrowed := true }
def RaftNobodyUptoSaid : Prop := raftNobodyUptoRow.holds Tryz.pinned (OpenSpec.upto raftNobodySpec)

end Rows
end Go.Proofs.YtnlimogbokkfpaaGreat
