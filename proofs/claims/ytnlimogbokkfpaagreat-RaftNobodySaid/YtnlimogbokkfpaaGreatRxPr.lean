/- The table of functions; closed ones by what they are known to return. Printed by genw.py. -/
import Derived.Test.YtnlimogbokkfpaaGreatRxAp
import Derived.Test.YtnlimogbokkfpaaGreatRkM
import Derived.Test.YtnlimogbokkfpaaGreatChecked
set_option maxRecDepth 100000
namespace Go.Proofs.YtnlimogbokkfpaaGreat.rnob
open Go.Ahs
theorem mixed : Tryz.prog.follows .mixedOrders = true := Tryz.checked.mixed
def ap1 : FuncId → Option AFn := over [(23, .prim raft.gAwake)] ap0
theorem ap1_ok : ∀ f af, ap1 f = some af → FnOK Tryz.prog f af := over_ok ⟨raft.awake_ok, trivial⟩ ap0_ok
def ap : FuncId → Option AFn := over [] ap1
theorem ap_ok : ∀ f af, ap f = some af → FnOK Tryz.prog f af := over_ok trivial ap1_ok
theorem a8 : ap 8 = some (.code f8) := by kernel_rfl
theorem a11 : ap 11 = some (.code f11) := by kernel_rfl
theorem a13 : ap 13 = some (.code f13) := by kernel_rfl
theorem a14 : ap 14 = some (.code f14) := by kernel_rfl
theorem a15 : ap 15 = some (.code f15) := by kernel_rfl
theorem a16 : ap 16 = some (.code f16) := by kernel_rfl
theorem a18 : ap 18 = some (.code f18) := by kernel_rfl
theorem a19 : ap 19 = some (.code f19) := by kernel_rfl
theorem a20 : ap 20 = some (.code f20) := by kernel_rfl
theorem a21 : ap 21 = some (.code f21) := by kernel_rfl
theorem a22 : ap 22 = some (.code f22) := by kernel_rfl
theorem a24 : ap 24 = some (.code f24) := by kernel_rfl
theorem a32 : ap 32 = some (.code f32) := by kernel_rfl
theorem a34 : ap 34 = some (.code f34) := by kernel_rfl
theorem a35 : ap 35 = some (.code f35) := by kernel_rfl
theorem a44 : ap 44 = some (.code f44) := by kernel_rfl
theorem a45 : ap 45 = some (.code f45) := by kernel_rfl
theorem a46 : ap 46 = some (.code f46) := by kernel_rfl
theorem a47 : ap 47 = some (.code f47) := by kernel_rfl
theorem a48 : ap 48 = some (.code f48) := by kernel_rfl
theorem a49 : ap 49 = some (.code f49) := by kernel_rfl
theorem a53 : ap 53 = some (.code f53) := by kernel_rfl
theorem a75 : ap 75 = some (.code f75) := by kernel_rfl
theorem a76 : ap 76 = some (.code f76) := by kernel_rfl
theorem a77 : ap 77 = some (.code f77) := by kernel_rfl
theorem q23 {n lim : Nat} {args : List AVal} {H : Heap} : Ahs.runT ap (n + 1) lim (.fn 23) args H = raft.gAwake lim args H := by
  have h : ap 23 = some (.prim raft.gAwake) := by kernel_rfl
  simp only [Ahs.runT, h]
end Go.Proofs.YtnlimogbokkfpaaGreat.rnob
