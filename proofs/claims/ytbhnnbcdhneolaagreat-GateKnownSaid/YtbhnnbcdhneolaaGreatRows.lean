/-
  No cell of these rows narrows 'for every input' (looked for: loops, veiled, ifaces, maps, wideKeys, modest, calm, conditions, laid).
  DERIVED. THE GIVEN ROWS OF THIS SEAT. 10 by the template 'for every input the law returns true; each argument reads behind the call as it read before'; 0 by the template 'total and deterministic' (their statements: YtbhnnbcdhneolaaGreatTotals.lean).
  GIVEN WITH THE SEED: the statements are not yours to turn. If you find one false, say at which input.
  Laid BY PROGRAM, IN A SANDBOX (cutbox-rows.mjs): the forced cells as the released guide's own fill.sh prints them over the translation 78a40fdaa9445929… (all of the seat's roots in one cut). By AI agents, Wed Nov 11 2026. No macro, syntax, notation, axiom, sorry.
-/
import Derived.Test.YtbhnnbcdhneolaaGreatChecked
import GoSem.Claim
import GoSem.ClaimJoined
import GoSem.ClaimMapViews
import Derived.JoinedTies
import Derived.KernelRfl
namespace Go.Proofs.YtbhnnbcdhneolaaGreat
/- THE CELL 'sum', in the pinned program and in every row, IS THE sha256 OF THE DUMP (.gsa) THAT YtbhnnbcdhneolaaGreatProg.lean LOADS. Nothing in Lean hashes anything: it is a label: what it is worth is what the hold of that sum in a sandbox is worth. -/
noncomputable def Tryz.pinned : Pinned := { name := "ytbhnnbcdhneolaagreat", sum := "78a40fdaa944592975de2e2c77bb76cd7337aade2122f2fb0a622001cd6f074b", checked := Tryz.checked }
namespace Rows
def none {H : Type} : Left H := { results := [], args := [] }

/-- 'wapentakelaw22.StateBlind': WHATEVER THE INPUT: true; the input reads as it did. -/
def stateBlindSpec : ChangeSpec := { name := "stateBlind", fn := fun _ => fun
  | [d1, d2, d3, d4, d5] => { results := [.lit (.bool true)], args := [d1, d2, d3, d4, d5] }
  | _ => none }
def stateBlindRow : OpenClaim := { program := "ytbhnnbcdhneolaagreat", sum := "78a40fdaa944592975de2e2c77bb76cd7337aade2122f2fb0a622001cd6f074b", func := "wapentake/wapentakelaw22.StateBlind", spec := "stateBlind", inPlace := ["slices.overlaps[wapentake/pages.Item]", "slices.overlaps[[]wapentake/pages.Item]", "internal/bytealg.Compare"], unfollowed := true, recurses := true, plainKeys := false, apart := false }
def StateBlindSaid : Prop := stateBlindRow.holds Tryz.pinned (OpenSpec.ofChange stateBlindSpec)

/-- ITS FALSE NEIGHBOUR: 'it returns false'. Refute it at one input. -/
def stateBlindWrong : ChangeSpec := { name := "stateBlind", fn := fun _ => fun
  | [d1, d2, d3, d4, d5] => { results := [.lit (.bool false)], args := [d1, d2, d3, d4, d5] }
  | _ => none }
def StateBlindWrongFalsely : Prop := stateBlindRow.holds Tryz.pinned (OpenSpec.ofChange stateBlindWrong)

/-- 'wapentakelaw22.StateOwn': WHATEVER THE INPUT: true; the input reads as it did. -/
def stateOwnSpec : ChangeSpec := { name := "stateOwn", fn := fun _ => fun
  | [d1, d2] => { results := [.lit (.bool true)], args := [d1, d2] }
  | _ => none }
def stateOwnRow : OpenClaim := { program := "ytbhnnbcdhneolaagreat", sum := "78a40fdaa944592975de2e2c77bb76cd7337aade2122f2fb0a622001cd6f074b", func := "wapentake/wapentakelaw22.StateOwn", spec := "stateOwn", inPlace := ["slices.overlaps[wapentake/pages.Item]", "slices.overlaps[[]wapentake/pages.Item]", "internal/bytealg.Compare"], unfollowed := true, recurses := true, plainKeys := false, apart := false }
def StateOwnSaid : Prop := stateOwnRow.holds Tryz.pinned (OpenSpec.ofChange stateOwnSpec)

/-- ITS FALSE NEIGHBOUR: 'it returns false'. Refute it at one input. -/
def stateOwnWrong : ChangeSpec := { name := "stateOwn", fn := fun _ => fun
  | [d1, d2] => { results := [.lit (.bool false)], args := [d1, d2] }
  | _ => none }
def StateOwnWrongFalsely : Prop := stateOwnRow.holds Tryz.pinned (OpenSpec.ofChange stateOwnWrong)

/-- 'wapentakelaw22.StatePlays': WHATEVER THE INPUT: true; the input reads as it did. -/
def statePlaysSpec : ChangeSpec := { name := "statePlays", fn := fun _ => fun
  | [d1, d2, d3, d4] => { results := [.lit (.bool true)], args := [d1, d2, d3, d4] }
  | _ => none }
def statePlaysRow : OpenClaim := { program := "ytbhnnbcdhneolaagreat", sum := "78a40fdaa944592975de2e2c77bb76cd7337aade2122f2fb0a622001cd6f074b", func := "wapentake/wapentakelaw22.StatePlays", spec := "statePlays", inPlace := ["slices.overlaps[wapentake/pages.Item]", "slices.overlaps[[]wapentake/pages.Item]", "internal/bytealg.Compare"], unfollowed := true, recurses := true, plainKeys := false, apart := false }
def StatePlaysSaid : Prop := statePlaysRow.holds Tryz.pinned (OpenSpec.ofChange statePlaysSpec)

/-- ITS FALSE NEIGHBOUR: 'it returns false'. Refute it at one input. -/
def statePlaysWrong : ChangeSpec := { name := "statePlays", fn := fun _ => fun
  | [d1, d2, d3, d4] => { results := [.lit (.bool false)], args := [d1, d2, d3, d4] }
  | _ => none }
def StatePlaysWrongFalsely : Prop := statePlaysRow.holds Tryz.pinned (OpenSpec.ofChange statePlaysWrong)

/-- 'wapentakelaw24.GateOnce': WHATEVER THE INPUT: true; the input reads as it did. -/
def gateOnceSpec : ChangeSpec := { name := "gateOnce", fn := fun _ => fun
  | [d] => { results := [.lit (.bool true)], args := [d] }
  | _ => none }
def gateOnceRow : OpenClaim := { program := "ytbhnnbcdhneolaagreat", sum := "78a40fdaa944592975de2e2c77bb76cd7337aade2122f2fb0a622001cd6f074b", func := "wapentake/wapentakelaw24.GateOnce", spec := "gateOnce", inPlace := ["slices.overlaps[wapentake/pages.Item]", "slices.overlaps[[]wapentake/pages.Item]"], unfollowed := true, recurses := true, plainKeys := false, apart := false }
def GateOnceSaid : Prop := gateOnceRow.holds Tryz.pinned (OpenSpec.ofChange gateOnceSpec)

/-- ITS FALSE NEIGHBOUR: 'it returns false'. Refute it at one input. -/
def gateOnceWrong : ChangeSpec := { name := "gateOnce", fn := fun _ => fun
  | [d] => { results := [.lit (.bool false)], args := [d] }
  | _ => none }
def GateOnceWrongFalsely : Prop := gateOnceRow.holds Tryz.pinned (OpenSpec.ofChange gateOnceWrong)

/-- 'wapentakelaw24.GateBlind': WHATEVER THE INPUT: true; the input reads as it did. -/
def gateBlindSpec : ChangeSpec := { name := "gateBlind", fn := fun _ => fun
  | [d1, d2] => { results := [.lit (.bool true)], args := [d1, d2] }
  | _ => none }
def gateBlindRow : OpenClaim := { program := "ytbhnnbcdhneolaagreat", sum := "78a40fdaa944592975de2e2c77bb76cd7337aade2122f2fb0a622001cd6f074b", func := "wapentake/wapentakelaw24.GateBlind", spec := "gateBlind", inPlace := ["slices.overlaps[wapentake/pages.Item]", "slices.overlaps[[]wapentake/pages.Item]"], unfollowed := true, recurses := true, plainKeys := false, apart := false }
def GateBlindSaid : Prop := gateBlindRow.holds Tryz.pinned (OpenSpec.ofChange gateBlindSpec)

/-- ITS FALSE NEIGHBOUR: 'it returns false'. Refute it at one input. -/
def gateBlindWrong : ChangeSpec := { name := "gateBlind", fn := fun _ => fun
  | [d1, d2] => { results := [.lit (.bool false)], args := [d1, d2] }
  | _ => none }
def GateBlindWrongFalsely : Prop := gateBlindRow.holds Tryz.pinned (OpenSpec.ofChange gateBlindWrong)

/-- 'wapentakelaw24.GatePlays': WHATEVER THE INPUT: true; the input reads as it did. -/
def gatePlaysSpec : ChangeSpec := { name := "gatePlays", fn := fun _ => fun
  | [d] => { results := [.lit (.bool true)], args := [d] }
  | _ => none }
def gatePlaysRow : OpenClaim := { program := "ytbhnnbcdhneolaagreat", sum := "78a40fdaa944592975de2e2c77bb76cd7337aade2122f2fb0a622001cd6f074b", func := "wapentake/wapentakelaw24.GatePlays", spec := "gatePlays", inPlace := ["slices.overlaps[wapentake/pages.Item]", "slices.overlaps[[]wapentake/pages.Item]"], unfollowed := true, recurses := true, plainKeys := false, apart := false }
def GatePlaysSaid : Prop := gatePlaysRow.holds Tryz.pinned (OpenSpec.ofChange gatePlaysSpec)

/-- ITS FALSE NEIGHBOUR: 'it returns false'. Refute it at one input. -/
def gatePlaysWrong : ChangeSpec := { name := "gatePlays", fn := fun _ => fun
  | [d] => { results := [.lit (.bool false)], args := [d] }
  | _ => none }
def GatePlaysWrongFalsely : Prop := gatePlaysRow.holds Tryz.pinned (OpenSpec.ofChange gatePlaysWrong)

/-- 'wapentakelaw24.GateKnown': WHATEVER THE INPUT: true; the input reads as it did. -/
def gateKnownSpec : ChangeSpec := { name := "gateKnown", fn := fun _ => fun
  | [] => { results := [.lit (.bool true)], args := [] }
  | _ => none }
def gateKnownRow : OpenClaim := { program := "ytbhnnbcdhneolaagreat", sum := "78a40fdaa944592975de2e2c77bb76cd7337aade2122f2fb0a622001cd6f074b", func := "wapentake/wapentakelaw24.GateKnown", spec := "gateKnown", inPlace := ["slices.overlaps[wapentake/pages.Item]", "slices.overlaps[[]wapentake/pages.Item]"], unfollowed := true, recurses := true, plainKeys := false, apart := false }
def GateKnownSaid : Prop := gateKnownRow.holds Tryz.pinned (OpenSpec.ofChange gateKnownSpec)

/-- ITS FALSE NEIGHBOUR: 'it returns false'. Refute it at one input. -/
def gateKnownWrong : ChangeSpec := { name := "gateKnown", fn := fun _ => fun
  | [] => { results := [.lit (.bool false)], args := [] }
  | _ => none }
def GateKnownWrongFalsely : Prop := gateKnownRow.holds Tryz.pinned (OpenSpec.ofChange gateKnownWrong)

/-- 'wapentakelaw22.StateLoads': WHATEVER THE INPUT: true; the input reads as it did. -/
def stateLoadsSpec : ChangeSpec := { name := "stateLoads", fn := fun _ => fun
  | [d] => { results := [.lit (.bool true)], args := [d] }
  | _ => none }
def stateLoadsRow : OpenClaim := { program := "ytbhnnbcdhneolaagreat", sum := "78a40fdaa944592975de2e2c77bb76cd7337aade2122f2fb0a622001cd6f074b", func := "wapentake/wapentakelaw22.StateLoads", spec := "stateLoads", inPlace := ["internal/bytealg.Compare", "slices.overlaps[wapentake/pages.Item]", "slices.overlaps[[]wapentake/pages.Item]"], unfollowed := true, recurses := true, plainKeys := false, apart := false }
def StateLoadsSaid : Prop := stateLoadsRow.holds Tryz.pinned (OpenSpec.ofChange stateLoadsSpec)

/-- ITS FALSE NEIGHBOUR: 'it returns false'. Refute it at one input. -/
def stateLoadsWrong : ChangeSpec := { name := "stateLoads", fn := fun _ => fun
  | [d] => { results := [.lit (.bool false)], args := [d] }
  | _ => none }
def StateLoadsWrongFalsely : Prop := stateLoadsRow.holds Tryz.pinned (OpenSpec.ofChange stateLoadsWrong)

/-- 'wapentakelaw22.StateTwin': WHATEVER THE INPUT: true; the input reads as it did. -/
def stateTwinSpec : ChangeSpec := { name := "stateTwin", fn := fun _ => fun
  | [d1, d2] => { results := [.lit (.bool true)], args := [d1, d2] }
  | _ => none }
def stateTwinRow : OpenClaim := { program := "ytbhnnbcdhneolaagreat", sum := "78a40fdaa944592975de2e2c77bb76cd7337aade2122f2fb0a622001cd6f074b", func := "wapentake/wapentakelaw22.StateTwin", spec := "stateTwin", inPlace := ["slices.overlaps[wapentake/pages.Item]", "slices.overlaps[[]wapentake/pages.Item]", "internal/bytealg.Compare"], unfollowed := true, recurses := true, plainKeys := false, apart := false }
def StateTwinSaid : Prop := stateTwinRow.holds Tryz.pinned (OpenSpec.ofChange stateTwinSpec)

/-- ITS FALSE NEIGHBOUR: 'it returns false'. Refute it at one input. -/
def stateTwinWrong : ChangeSpec := { name := "stateTwin", fn := fun _ => fun
  | [d1, d2] => { results := [.lit (.bool false)], args := [d1, d2] }
  | _ => none }
def StateTwinWrongFalsely : Prop := stateTwinRow.holds Tryz.pinned (OpenSpec.ofChange stateTwinWrong)

/-- 'wapentakelaw22.StateKnown': WHATEVER THE INPUT: true; the input reads as it did. -/
def stateKnownSpec : ChangeSpec := { name := "stateKnown", fn := fun _ => fun
  | [] => { results := [.lit (.bool true)], args := [] }
  | _ => none }
def stateKnownRow : OpenClaim := { program := "ytbhnnbcdhneolaagreat", sum := "78a40fdaa944592975de2e2c77bb76cd7337aade2122f2fb0a622001cd6f074b", func := "wapentake/wapentakelaw22.StateKnown", spec := "stateKnown", inPlace := ["slices.overlaps[wapentake/pages.Item]", "slices.overlaps[[]wapentake/pages.Item]", "internal/bytealg.Compare"], unfollowed := true, recurses := true, plainKeys := false, apart := false }
def StateKnownSaid : Prop := stateKnownRow.holds Tryz.pinned (OpenSpec.ofChange stateKnownSpec)

/-- ITS FALSE NEIGHBOUR: 'it returns false'. Refute it at one input. -/
def stateKnownWrong : ChangeSpec := { name := "stateKnown", fn := fun _ => fun
  | [] => { results := [.lit (.bool false)], args := [] }
  | _ => none }
def StateKnownWrongFalsely : Prop := stateKnownRow.holds Tryz.pinned (OpenSpec.ofChange stateKnownWrong)

/- THE SECOND FORM. 'bulk': how many values and letters a reading holds, each counted each time it is reached (what is shared counts as often as it is met; a slice's spare places count too). A statement '..UptoSaid' is the law's where the arguments, and the package variables that the reading takes, are together of bulk at most 1048576: NARROWER than '..Said'. Prove '..Said' where nothing that the law and all that it calls make is longer than what came in: it says more and counts as full. Else prove '..UptoSaid'. A law counts once. -/
mutual
def uptoBulk {H : Type} : DataW H → Nat
  | .lit (.string bytes) => bytes.length + 1
  | .lit _ => 1
  | .nil => 1
  | .ptr d => uptoBulk d + 1
  | .slice elems spare => uptoBulkAll elems + uptoBulkAll spare + 1
  | .agg parts => uptoBulkAll parts + 1
  | .iface _ d => uptoBulk d + 1
  | .map entries => uptoBulkEntries entries + 1
  | .held _ => 1
def uptoBulkAll {H : Type} : List (DataW H) → Nat
  | [] => 0
  | d :: r => uptoBulk d + uptoBulkAll r
def uptoBulkEntries {H : Type} : List (Lit × DataW H) → Nat
  | [] => 0
  | x :: r => uptoBulkEntry x + uptoBulkEntries r
def uptoBulkEntry {H : Type} : Lit × DataW H → Nat
  | (.string bytes, d) => bytes.length + uptoBulk d + 1
  | (_, d) => uptoBulk d + 1
 end
def uptoSmall : (H : Type) → List (DataW H) → Bool := fun _ ds => decide (uptoBulkAll ds ≤ 1048576)
def OpenSpec.upto (s : _root_.Go.ChangeSpec) : _root_.Go.OpenSpec := { _root_.Go.OpenSpec.ofChange s with cond := some uptoSmall }

/-- 'wapentakelaw22.StateBlind', WHERE WHAT IT READS IS OF BULK AT MOST 1048576: true; the input reads as it did. -/
def stateBlindUptoRow : OpenClaim := { program := "ytbhnnbcdhneolaagreat", sum := "78a40fdaa944592975de2e2c77bb76cd7337aade2122f2fb0a622001cd6f074b", func := "wapentake/wapentakelaw22.StateBlind", spec := "stateBlind", inPlace := ["slices.overlaps[wapentake/pages.Item]", "slices.overlaps[[]wapentake/pages.Item]", "internal/bytealg.Compare"], unfollowed := true, recurses := true, plainKeys := false, apart := false, narrowed := true }
def StateBlindUptoSaid : Prop := stateBlindUptoRow.holds Tryz.pinned (OpenSpec.upto stateBlindSpec)

/-- 'wapentakelaw22.StateOwn', WHERE WHAT IT READS IS OF BULK AT MOST 1048576: true; the input reads as it did. -/
def stateOwnUptoRow : OpenClaim := { program := "ytbhnnbcdhneolaagreat", sum := "78a40fdaa944592975de2e2c77bb76cd7337aade2122f2fb0a622001cd6f074b", func := "wapentake/wapentakelaw22.StateOwn", spec := "stateOwn", inPlace := ["slices.overlaps[wapentake/pages.Item]", "slices.overlaps[[]wapentake/pages.Item]", "internal/bytealg.Compare"], unfollowed := true, recurses := true, plainKeys := false, apart := false, narrowed := true }
def StateOwnUptoSaid : Prop := stateOwnUptoRow.holds Tryz.pinned (OpenSpec.upto stateOwnSpec)

/-- 'wapentakelaw22.StatePlays', WHERE WHAT IT READS IS OF BULK AT MOST 1048576: true; the input reads as it did. -/
def statePlaysUptoRow : OpenClaim := { program := "ytbhnnbcdhneolaagreat", sum := "78a40fdaa944592975de2e2c77bb76cd7337aade2122f2fb0a622001cd6f074b", func := "wapentake/wapentakelaw22.StatePlays", spec := "statePlays", inPlace := ["slices.overlaps[wapentake/pages.Item]", "slices.overlaps[[]wapentake/pages.Item]", "internal/bytealg.Compare"], unfollowed := true, recurses := true, plainKeys := false, apart := false, narrowed := true }
def StatePlaysUptoSaid : Prop := statePlaysUptoRow.holds Tryz.pinned (OpenSpec.upto statePlaysSpec)

/-- 'wapentakelaw24.GateOnce', WHERE WHAT IT READS IS OF BULK AT MOST 1048576: true; the input reads as it did. -/
def gateOnceUptoRow : OpenClaim := { program := "ytbhnnbcdhneolaagreat", sum := "78a40fdaa944592975de2e2c77bb76cd7337aade2122f2fb0a622001cd6f074b", func := "wapentake/wapentakelaw24.GateOnce", spec := "gateOnce", inPlace := ["slices.overlaps[wapentake/pages.Item]", "slices.overlaps[[]wapentake/pages.Item]"], unfollowed := true, recurses := true, plainKeys := false, apart := false, narrowed := true }
def GateOnceUptoSaid : Prop := gateOnceUptoRow.holds Tryz.pinned (OpenSpec.upto gateOnceSpec)

/-- 'wapentakelaw24.GateBlind', WHERE WHAT IT READS IS OF BULK AT MOST 1048576: true; the input reads as it did. -/
def gateBlindUptoRow : OpenClaim := { program := "ytbhnnbcdhneolaagreat", sum := "78a40fdaa944592975de2e2c77bb76cd7337aade2122f2fb0a622001cd6f074b", func := "wapentake/wapentakelaw24.GateBlind", spec := "gateBlind", inPlace := ["slices.overlaps[wapentake/pages.Item]", "slices.overlaps[[]wapentake/pages.Item]"], unfollowed := true, recurses := true, plainKeys := false, apart := false, narrowed := true }
def GateBlindUptoSaid : Prop := gateBlindUptoRow.holds Tryz.pinned (OpenSpec.upto gateBlindSpec)

/-- 'wapentakelaw24.GatePlays', WHERE WHAT IT READS IS OF BULK AT MOST 1048576: true; the input reads as it did. -/
def gatePlaysUptoRow : OpenClaim := { program := "ytbhnnbcdhneolaagreat", sum := "78a40fdaa944592975de2e2c77bb76cd7337aade2122f2fb0a622001cd6f074b", func := "wapentake/wapentakelaw24.GatePlays", spec := "gatePlays", inPlace := ["slices.overlaps[wapentake/pages.Item]", "slices.overlaps[[]wapentake/pages.Item]"], unfollowed := true, recurses := true, plainKeys := false, apart := false, narrowed := true }
def GatePlaysUptoSaid : Prop := gatePlaysUptoRow.holds Tryz.pinned (OpenSpec.upto gatePlaysSpec)

/-- 'wapentakelaw24.GateKnown', WHERE WHAT IT READS IS OF BULK AT MOST 1048576: true; the input reads as it did. -/
def gateKnownUptoRow : OpenClaim := { program := "ytbhnnbcdhneolaagreat", sum := "78a40fdaa944592975de2e2c77bb76cd7337aade2122f2fb0a622001cd6f074b", func := "wapentake/wapentakelaw24.GateKnown", spec := "gateKnown", inPlace := ["slices.overlaps[wapentake/pages.Item]", "slices.overlaps[[]wapentake/pages.Item]"], unfollowed := true, recurses := true, plainKeys := false, apart := false, narrowed := true }
def GateKnownUptoSaid : Prop := gateKnownUptoRow.holds Tryz.pinned (OpenSpec.upto gateKnownSpec)

/-- 'wapentakelaw22.StateLoads', WHERE WHAT IT READS IS OF BULK AT MOST 1048576: true; the input reads as it did. -/
def stateLoadsUptoRow : OpenClaim := { program := "ytbhnnbcdhneolaagreat", sum := "78a40fdaa944592975de2e2c77bb76cd7337aade2122f2fb0a622001cd6f074b", func := "wapentake/wapentakelaw22.StateLoads", spec := "stateLoads", inPlace := ["internal/bytealg.Compare", "slices.overlaps[wapentake/pages.Item]", "slices.overlaps[[]wapentake/pages.Item]"], unfollowed := true, recurses := true, plainKeys := false, apart := false, narrowed := true }
def StateLoadsUptoSaid : Prop := stateLoadsUptoRow.holds Tryz.pinned (OpenSpec.upto stateLoadsSpec)

/-- 'wapentakelaw22.StateTwin', WHERE WHAT IT READS IS OF BULK AT MOST 1048576: true; the input reads as it did. -/
def stateTwinUptoRow : OpenClaim := { program := "ytbhnnbcdhneolaagreat", sum := "78a40fdaa944592975de2e2c77bb76cd7337aade2122f2fb0a622001cd6f074b", func := "wapentake/wapentakelaw22.StateTwin", spec := "stateTwin", inPlace := ["slices.overlaps[wapentake/pages.Item]", "slices.overlaps[[]wapentake/pages.Item]", "internal/bytealg.Compare"], unfollowed := true, recurses := true, plainKeys := false, apart := false, narrowed := true }
def StateTwinUptoSaid : Prop := stateTwinUptoRow.holds Tryz.pinned (OpenSpec.upto stateTwinSpec)

/-- 'wapentakelaw22.StateKnown', WHERE WHAT IT READS IS OF BULK AT MOST 1048576: true; the input reads as it did. -/
def stateKnownUptoRow : OpenClaim := { program := "ytbhnnbcdhneolaagreat", sum := "78a40fdaa944592975de2e2c77bb76cd7337aade2122f2fb0a622001cd6f074b", func := "wapentake/wapentakelaw22.StateKnown", spec := "stateKnown", inPlace := ["slices.overlaps[wapentake/pages.Item]", "slices.overlaps[[]wapentake/pages.Item]", "internal/bytealg.Compare"], unfollowed := true, recurses := true, plainKeys := false, apart := false, narrowed := true }
def StateKnownUptoSaid : Prop := stateKnownUptoRow.holds Tryz.pinned (OpenSpec.upto stateKnownSpec)

end Rows
end Go.Proofs.YtbhnnbcdhneolaaGreat
