/- The table of functions; closed ones by what they are known to return. Printed by genw.py. -/
import Derived.Test.YtpefhojmfcenfaaCgAp
import Derived.Test.YtpefhojmfcenfaaChecked
set_option maxRecDepth 100000
namespace Go.Proofs.Ytpefhojmfcenfaa.conf
open Go.Ahs
theorem mixed : Try.prog.follows .mixedOrders = true := Try.checked.mixed
theorem run39 : ∃ H0, run ap0 40 0 39 [] Heap.empty = some (.bool true, H0) := isTrue_inv (by kernel_rfl)
def p39 : AFn := .prim fun _ args H => match args with | [] => some (.bool true, H) | _ => none
theorem ok39 : FnOK Try.prog 39 p39 := by
  obtain ⟨H0, h⟩ := run39
  exact PrimOK.closed mixed ap0_ok h rfl
def ap : FuncId → Option AFn := over [(39, p39)] ap0
theorem ap_ok : ∀ f af, ap f = some af → FnOK Try.prog f af := over_ok ⟨ok39, trivial⟩ ap0_ok
theorem a10 : ap 10 = some (.code f10) := by kernel_rfl
theorem a11 : ap 11 = some (.code f11) := by kernel_rfl
theorem a12 : ap 12 = some (.code f12) := by kernel_rfl
theorem a14 : ap 14 = some (.code f14) := by kernel_rfl
theorem a37 : ap 37 = some (.code f37) := by kernel_rfl
theorem a38 : ap 38 = some (.code f38) := by kernel_rfl
theorem a40 : ap 40 = some (.code f40) := by kernel_rfl
theorem a41 : ap 41 = some (.code f41) := by kernel_rfl
theorem a42 : ap 42 = some (.code f42) := by kernel_rfl
theorem a43 : ap 43 = some (.code f43) := by kernel_rfl
theorem a44 : ap 44 = some (.code f44) := by kernel_rfl
theorem a45 : ap 45 = some (.code f45) := by kernel_rfl
theorem a46 : ap 46 = some (.code f46) := by kernel_rfl
theorem a47 : ap 47 = some (.code f47) := by kernel_rfl
theorem a48 : ap 48 = some (.code f48) := by kernel_rfl
theorem a49 : ap 49 = some (.code f49) := by kernel_rfl
theorem a50 : ap 50 = some (.code f50) := by kernel_rfl
theorem a51 : ap 51 = some (.code f51) := by kernel_rfl
theorem a52 : ap 52 = some (.code f52) := by kernel_rfl
theorem a53 : ap 53 = some (.code f53) := by kernel_rfl
theorem a70 : ap 70 = some (.code f70) := by kernel_rfl
theorem a71 : ap 71 = some (.code f71) := by kernel_rfl
theorem a72 : ap 72 = some (.code f72) := by kernel_rfl
theorem a73 : ap 73 = some (.code f73) := by kernel_rfl
theorem a76 : ap 76 = some (.code f76) := by kernel_rfl
theorem a77 : ap 77 = some (.code f77) := by kernel_rfl
theorem a79 : ap 79 = some (.code f79) := by kernel_rfl
theorem a80 : ap 80 = some (.code f80) := by kernel_rfl
theorem a81 : ap 81 = some (.code f81) := by kernel_rfl
theorem a82 : ap 82 = some (.code f82) := by kernel_rfl
theorem a83 : ap 83 = some (.code f83) := by kernel_rfl
theorem a84 : ap 84 = some (.code f84) := by kernel_rfl
theorem a85 : ap 85 = some (.code f85) := by kernel_rfl
theorem a86 : ap 86 = some (.code f86) := by kernel_rfl
theorem a87 : ap 87 = some (.code f87) := by kernel_rfl
theorem a88 : ap 88 = some (.code f88) := by kernel_rfl
theorem a89 : ap 89 = some (.code f89) := by kernel_rfl
theorem a90 : ap 90 = some (.code f90) := by kernel_rfl
theorem a91 : ap 91 = some (.code f91) := by kernel_rfl
theorem a92 : ap 92 = some (.code f92) := by kernel_rfl
theorem a93 : ap 93 = some (.code f93) := by kernel_rfl
theorem a94 : ap 94 = some (.code f94) := by kernel_rfl
theorem a95 : ap 95 = some (.code f95) := by kernel_rfl
theorem a96 : ap 96 = some (.code f96) := by kernel_rfl
theorem b39 {n lim : Nat} {H : Heap} : Ahs.runT ap (n + 1) lim (.fn 39) [] H = some (.bool true, H) := by
  have h : ap 39 = some p39 := by kernel_rfl
  simp only [Ahs.runT, h, p39]
end Go.Proofs.Ytpefhojmfcenfaa.conf
