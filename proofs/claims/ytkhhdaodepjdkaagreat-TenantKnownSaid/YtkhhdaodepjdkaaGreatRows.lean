/-
  No cell of these rows narrows 'for every input' (looked for: loops, veiled, ifaces, maps, wideKeys, modest, calm, conditions, laid).
  DERIVED. THE GIVEN ROWS OF THIS SEAT. 7 by the template 'for every input the law returns true; each argument reads behind the call as it read before'; 0 by the template 'total and deterministic' (their statements: YtkhhdaodepjdkaaGreatTotals.lean).
  GIVEN WITH THE SEED: the statements are not yours to turn. If you find one false, say at which input.
  Laid BY PROGRAM, IN A SANDBOX (cutbox-rows.mjs): the forced cells as the released guide's own fill.sh prints them over the translation 2df93ffc54add155… (all of the seat's roots in one cut). By AI agents, Wed Nov 11 2026. No macro, syntax, notation, axiom, sorry.
-/
import Derived.Test.YtkhhdaodepjdkaaGreatChecked
import GoSem.Claim
import GoSem.ClaimJoined
import GoSem.ClaimMapViews
import Derived.JoinedTies
import Derived.KernelRfl
namespace Go.Proofs.YtkhhdaodepjdkaaGreat
/- THE CELL 'sum', in the pinned program and in every row, IS THE sha256 OF THE DUMP (.gsa) THAT YtkhhdaodepjdkaaGreatProg.lean LOADS. Nothing in Lean hashes anything: it is a label: what it is worth is what the hold of that sum in a sandbox is worth. -/
noncomputable def Tryz.pinned : Pinned := { name := "ytkhhdaodepjdkaagreat", sum := "2df93ffc54add15556fc730271f65d8d10cb9f1b19ecde137745516921475256", checked := Tryz.checked }
namespace Rows
def none {H : Type} : Left H := { results := [], args := [] }

/-- 'wapentakelaw21.TenantLease': WHATEVER THE INPUT: true; the input reads as it did. -/
def tenantLeaseSpec : ChangeSpec := { name := "tenantLease", fn := fun _ => fun
  | [d1, d2] => { results := [.lit (.bool true)], args := [d1, d2] }
  | _ => none }
def tenantLeaseRow : OpenClaim := { program := "ytkhhdaodepjdkaagreat", sum := "2df93ffc54add15556fc730271f65d8d10cb9f1b19ecde137745516921475256", func := "wapentake/wapentakelaw21.TenantLease", spec := "tenantLease", inPlace := ["slices.overlaps[wapentake/pages.Item]", "slices.overlaps[[]wapentake/pages.Item]"], unfollowed := true, recurses := true, apart := false }
def TenantLeaseSaid : Prop := tenantLeaseRow.holds Tryz.pinned (OpenSpec.ofChange tenantLeaseSpec)

/-- ITS FALSE NEIGHBOUR: 'it returns false'. Refute it at one input. -/
def tenantLeaseWrong : ChangeSpec := { name := "tenantLease", fn := fun _ => fun
  | [d1, d2] => { results := [.lit (.bool false)], args := [d1, d2] }
  | _ => none }
def TenantLeaseWrongFalsely : Prop := tenantLeaseRow.holds Tryz.pinned (OpenSpec.ofChange tenantLeaseWrong)

/-- 'wapentakelaw21.TenantReads': WHATEVER THE INPUT: true; the input reads as it did. -/
def tenantReadsSpec : ChangeSpec := { name := "tenantReads", fn := fun _ => fun
  | [d] => { results := [.lit (.bool true)], args := [d] }
  | _ => none }
def tenantReadsRow : OpenClaim := { program := "ytkhhdaodepjdkaagreat", sum := "2df93ffc54add15556fc730271f65d8d10cb9f1b19ecde137745516921475256", func := "wapentake/wapentakelaw21.TenantReads", spec := "tenantReads", inPlace := ["slices.overlaps[wapentake/pages.Item]", "slices.overlaps[[]wapentake/pages.Item]"], unfollowed := true, recurses := true, apart := false }
def TenantReadsSaid : Prop := tenantReadsRow.holds Tryz.pinned (OpenSpec.ofChange tenantReadsSpec)

/-- ITS FALSE NEIGHBOUR: 'it returns false'. Refute it at one input. -/
def tenantReadsWrong : ChangeSpec := { name := "tenantReads", fn := fun _ => fun
  | [d] => { results := [.lit (.bool false)], args := [d] }
  | _ => none }
def TenantReadsWrongFalsely : Prop := tenantReadsRow.holds Tryz.pinned (OpenSpec.ofChange tenantReadsWrong)

/-- 'wapentakelaw21.TenantPlays': WHATEVER THE INPUT: true; the input reads as it did. -/
def tenantPlaysSpec : ChangeSpec := { name := "tenantPlays", fn := fun _ => fun
  | [d1, d2] => { results := [.lit (.bool true)], args := [d1, d2] }
  | _ => none }
def tenantPlaysRow : OpenClaim := { program := "ytkhhdaodepjdkaagreat", sum := "2df93ffc54add15556fc730271f65d8d10cb9f1b19ecde137745516921475256", func := "wapentake/wapentakelaw21.TenantPlays", spec := "tenantPlays", inPlace := ["slices.overlaps[wapentake/pages.Item]", "slices.overlaps[[]wapentake/pages.Item]"], unfollowed := true, recurses := true, apart := false }
def TenantPlaysSaid : Prop := tenantPlaysRow.holds Tryz.pinned (OpenSpec.ofChange tenantPlaysSpec)

/-- ITS FALSE NEIGHBOUR: 'it returns false'. Refute it at one input. -/
def tenantPlaysWrong : ChangeSpec := { name := "tenantPlays", fn := fun _ => fun
  | [d1, d2] => { results := [.lit (.bool false)], args := [d1, d2] }
  | _ => none }
def TenantPlaysWrongFalsely : Prop := tenantPlaysRow.holds Tryz.pinned (OpenSpec.ofChange tenantPlaysWrong)

/-- 'wapentakelaw21.TenantOnce': WHATEVER THE INPUT: true; the input reads as it did. -/
def tenantOnceSpec : ChangeSpec := { name := "tenantOnce", fn := fun _ => fun
  | [d1, d2, d3] => { results := [.lit (.bool true)], args := [d1, d2, d3] }
  | _ => none }
def tenantOnceRow : OpenClaim := { program := "ytkhhdaodepjdkaagreat", sum := "2df93ffc54add15556fc730271f65d8d10cb9f1b19ecde137745516921475256", func := "wapentake/wapentakelaw21.TenantOnce", spec := "tenantOnce", inPlace := ["slices.overlaps[wapentake/pages.Item]", "slices.overlaps[[]wapentake/pages.Item]"], unfollowed := true, recurses := true, apart := false }
def TenantOnceSaid : Prop := tenantOnceRow.holds Tryz.pinned (OpenSpec.ofChange tenantOnceSpec)

/-- ITS FALSE NEIGHBOUR: 'it returns false'. Refute it at one input. -/
def tenantOnceWrong : ChangeSpec := { name := "tenantOnce", fn := fun _ => fun
  | [d1, d2, d3] => { results := [.lit (.bool false)], args := [d1, d2, d3] }
  | _ => none }
def TenantOnceWrongFalsely : Prop := tenantOnceRow.holds Tryz.pinned (OpenSpec.ofChange tenantOnceWrong)

/-- 'wapentakelaw21.TenantTwin': WHATEVER THE INPUT: true; the input reads as it did. -/
def tenantTwinSpec : ChangeSpec := { name := "tenantTwin", fn := fun _ => fun
  | [d1, d2, d3] => { results := [.lit (.bool true)], args := [d1, d2, d3] }
  | _ => none }
def tenantTwinRow : OpenClaim := { program := "ytkhhdaodepjdkaagreat", sum := "2df93ffc54add15556fc730271f65d8d10cb9f1b19ecde137745516921475256", func := "wapentake/wapentakelaw21.TenantTwin", spec := "tenantTwin", inPlace := ["slices.overlaps[wapentake/pages.Item]", "slices.overlaps[[]wapentake/pages.Item]"], unfollowed := true, recurses := true, apart := false }
def TenantTwinSaid : Prop := tenantTwinRow.holds Tryz.pinned (OpenSpec.ofChange tenantTwinSpec)

/-- ITS FALSE NEIGHBOUR: 'it returns false'. Refute it at one input. -/
def tenantTwinWrong : ChangeSpec := { name := "tenantTwin", fn := fun _ => fun
  | [d1, d2, d3] => { results := [.lit (.bool false)], args := [d1, d2, d3] }
  | _ => none }
def TenantTwinWrongFalsely : Prop := tenantTwinRow.holds Tryz.pinned (OpenSpec.ofChange tenantTwinWrong)

/-- 'wapentakelaw21.TenantKnown': WHATEVER THE INPUT: true; the input reads as it did. -/
def tenantKnownSpec : ChangeSpec := { name := "tenantKnown", fn := fun _ => fun
  | [] => { results := [.lit (.bool true)], args := [] }
  | _ => none }
def tenantKnownRow : OpenClaim := { program := "ytkhhdaodepjdkaagreat", sum := "2df93ffc54add15556fc730271f65d8d10cb9f1b19ecde137745516921475256", func := "wapentake/wapentakelaw21.TenantKnown", spec := "tenantKnown", inPlace := ["slices.overlaps[wapentake/pages.Item]", "slices.overlaps[[]wapentake/pages.Item]"], unfollowed := true, recurses := true, apart := false }
def TenantKnownSaid : Prop := tenantKnownRow.holds Tryz.pinned (OpenSpec.ofChange tenantKnownSpec)

/-- ITS FALSE NEIGHBOUR: 'it returns false'. Refute it at one input. -/
def tenantKnownWrong : ChangeSpec := { name := "tenantKnown", fn := fun _ => fun
  | [] => { results := [.lit (.bool false)], args := [] }
  | _ => none }
def TenantKnownWrongFalsely : Prop := tenantKnownRow.holds Tryz.pinned (OpenSpec.ofChange tenantKnownWrong)

/-- 'wapentakelaw21.TenantQuota': WHATEVER THE INPUT: true; the input reads as it did. -/
def tenantQuotaSpec : ChangeSpec := { name := "tenantQuota", fn := fun _ => fun
  | [d1, d2] => { results := [.lit (.bool true)], args := [d1, d2] }
  | _ => none }
def tenantQuotaRow : OpenClaim := { program := "ytkhhdaodepjdkaagreat", sum := "2df93ffc54add15556fc730271f65d8d10cb9f1b19ecde137745516921475256", func := "wapentake/wapentakelaw21.TenantQuota", spec := "tenantQuota", inPlace := ["slices.overlaps[wapentake/pages.Item]", "slices.overlaps[[]wapentake/pages.Item]"], unfollowed := true, recurses := true, apart := false }
def TenantQuotaSaid : Prop := tenantQuotaRow.holds Tryz.pinned (OpenSpec.ofChange tenantQuotaSpec)

/-- ITS FALSE NEIGHBOUR: 'it returns false'. Refute it at one input. -/
def tenantQuotaWrong : ChangeSpec := { name := "tenantQuota", fn := fun _ => fun
  | [d1, d2] => { results := [.lit (.bool false)], args := [d1, d2] }
  | _ => none }
def TenantQuotaWrongFalsely : Prop := tenantQuotaRow.holds Tryz.pinned (OpenSpec.ofChange tenantQuotaWrong)

/- THE SECOND FORM. 'bulk': how many values and letters a reading holds, each counted each time it is reached (what is shared counts as often as it is met; a slice's spare places count too). A statement '..UptoSaid' is the law's where the arguments, and the package variables that the reading takes, are together of bulk at most 1048576: NARROWER than '..Said'. Prove '..Said' where nothing that the law and all that it calls make is longer than what came in: it says more and counts as full. Else prove '..UptoSaid'. A law counts once. -/
mutual
def uptoBulk {H : Type} : DataW H → Nat
  | .lit (.string bytes) => bytes.length + 1
  | .lit _ => 1
  | .nil => 1
  | .ptr d => uptoBulk d + 1
  | .slice elems spare => uptoBulkAll elems + uptoBulkAll spare + 1
  | .agg parts => uptoBulkAll parts + 1
  | .iface _ d => uptoBulk d + 1
  | .map entries => uptoBulkEntries entries + 1
  | .held _ => 1
def uptoBulkAll {H : Type} : List (DataW H) → Nat
  | [] => 0
  | d :: r => uptoBulk d + uptoBulkAll r
def uptoBulkEntries {H : Type} : List (Lit × DataW H) → Nat
  | [] => 0
  | x :: r => uptoBulkEntry x + uptoBulkEntries r
def uptoBulkEntry {H : Type} : Lit × DataW H → Nat
  | (.string bytes, d) => bytes.length + uptoBulk d + 1
  | (_, d) => uptoBulk d + 1
 end
def uptoSmall : (H : Type) → List (DataW H) → Bool := fun _ ds => decide (uptoBulkAll ds ≤ 1048576)
def OpenSpec.upto (s : _root_.Go.ChangeSpec) : _root_.Go.OpenSpec := { _root_.Go.OpenSpec.ofChange s with cond := some uptoSmall }

/-- 'wapentakelaw21.TenantLease', WHERE WHAT IT READS IS OF BULK AT MOST 1048576: true; the input reads as it did. -/
def tenantLeaseUptoRow : OpenClaim := { program := "ytkhhdaodepjdkaagreat", sum := "2df93ffc54add15556fc730271f65d8d10cb9f1b19ecde137745516921475256", func := "wapentake/wapentakelaw21.TenantLease", spec := "tenantLease", inPlace := ["slices.overlaps[wapentake/pages.Item]", "slices.overlaps[[]wapentake/pages.Item]"], unfollowed := true, recurses := true, apart := false, narrowed := true }
def TenantLeaseUptoSaid : Prop := tenantLeaseUptoRow.holds Tryz.pinned (OpenSpec.upto tenantLeaseSpec)

/-- 'wapentakelaw21.TenantReads', WHERE WHAT IT READS IS OF BULK AT MOST 1048576: true; the input reads as it did. -/
def tenantReadsUptoRow : OpenClaim := { program := "ytkhhdaodepjdkaagreat", sum := "2df93ffc54add15556fc730271f65d8d10cb9f1b19ecde137745516921475256", func := "wapentake/wapentakelaw21.TenantReads", spec := "tenantReads", inPlace := ["slices.overlaps[wapentake/pages.Item]", "slices.overlaps[[]wapentake/pages.Item]"], unfollowed := true, recurses := true, apart := false, narrowed := true }
def TenantReadsUptoSaid : Prop := tenantReadsUptoRow.holds Tryz.pinned (OpenSpec.upto tenantReadsSpec)

/-- 'wapentakelaw21.TenantPlays', WHERE WHAT IT READS IS OF BULK AT MOST 1048576: true; the input reads as it did. -/
def tenantPlaysUptoRow : OpenClaim := { program := "ytkhhdaodepjdkaagreat", sum := "2df93ffc54add15556fc730271f65d8d10cb9f1b19ecde137745516921475256", func := "wapentake/wapentakelaw21.TenantPlays", spec := "tenantPlays", inPlace := ["slices.overlaps[wapentake/pages.Item]", "slices.overlaps[[]wapentake/pages.Item]"], unfollowed := true, recurses := true, apart := false, narrowed := true }
def TenantPlaysUptoSaid : Prop := tenantPlaysUptoRow.holds Tryz.pinned (OpenSpec.upto tenantPlaysSpec)

/-- 'wapentakelaw21.TenantOnce', WHERE WHAT IT READS IS OF BULK AT MOST 1048576: true; the input reads as it did. -/
def tenantOnceUptoRow : OpenClaim := { program := "ytkhhdaodepjdkaagreat", sum := "2df93ffc54add15556fc730271f65d8d10cb9f1b19ecde137745516921475256", func := "wapentake/wapentakelaw21.TenantOnce", spec := "tenantOnce", inPlace := ["slices.overlaps[wapentake/pages.Item]", "slices.overlaps[[]wapentake/pages.Item]"], unfollowed := true, recurses := true, apart := false, narrowed := true }
def TenantOnceUptoSaid : Prop := tenantOnceUptoRow.holds Tryz.pinned (OpenSpec.upto tenantOnceSpec)

/-- 'wapentakelaw21.TenantTwin', WHERE WHAT IT READS IS OF BULK AT MOST 1048576: true; the input reads as it did. -/
def tenantTwinUptoRow : OpenClaim := { program := "ytkhhdaodepjdkaagreat", sum := "2df93ffc54add15556fc730271f65d8d10cb9f1b19ecde137745516921475256", func := "wapentake/wapentakelaw21.TenantTwin", spec := "tenantTwin", inPlace := ["slices.overlaps[wapentake/pages.Item]", "slices.overlaps[[]wapentake/pages.Item]"], unfollowed := true, recurses := true, apart := false, narrowed := true }
def TenantTwinUptoSaid : Prop := tenantTwinUptoRow.holds Tryz.pinned (OpenSpec.upto tenantTwinSpec)

/-- 'wapentakelaw21.TenantKnown', WHERE WHAT IT READS IS OF BULK AT MOST 1048576: true; the input reads as it did. -/
def tenantKnownUptoRow : OpenClaim := { program := "ytkhhdaodepjdkaagreat", sum := "2df93ffc54add15556fc730271f65d8d10cb9f1b19ecde137745516921475256", func := "wapentake/wapentakelaw21.TenantKnown", spec := "tenantKnown", inPlace := ["slices.overlaps[wapentake/pages.Item]", "slices.overlaps[[]wapentake/pages.Item]"], unfollowed := true, recurses := true, apart := false, narrowed := true }
def TenantKnownUptoSaid : Prop := tenantKnownUptoRow.holds Tryz.pinned (OpenSpec.upto tenantKnownSpec)

/-- 'wapentakelaw21.TenantQuota', WHERE WHAT IT READS IS OF BULK AT MOST 1048576: true; the input reads as it did. -/
def tenantQuotaUptoRow : OpenClaim := { program := "ytkhhdaodepjdkaagreat", sum := "2df93ffc54add15556fc730271f65d8d10cb9f1b19ecde137745516921475256", func := "wapentake/wapentakelaw21.TenantQuota", spec := "tenantQuota", inPlace := ["slices.overlaps[wapentake/pages.Item]", "slices.overlaps[[]wapentake/pages.Item]"], unfollowed := true, recurses := true, apart := false, narrowed := true }
def TenantQuotaUptoSaid : Prop := tenantQuotaUptoRow.holds Tryz.pinned (OpenSpec.upto tenantQuotaSpec)

end Rows
end Go.Proofs.YtkhhdaodepjdkaaGreat
