/- The table of functions; closed ones by what they are known to return. Printed by genw.py. -/
import Derived.Test.YtpefhojmfcenfaaLgAp
import Derived.Test.YtpefhojmfcenfaaChecked
set_option maxRecDepth 100000
namespace Go.Proofs.Ytpefhojmfcenfaa.logs
open Go.Ahs
theorem mixed : Try.prog.follows .mixedOrders = true := Try.checked.mixed
theorem run16 : ∃ H0, run ap0 40 0 16 [] Heap.empty = some (.bool true, H0) := isTrue_inv (by kernel_rfl)
def p16 : AFn := .prim fun _ args H => match args with | [] => some (.bool true, H) | _ => none
theorem ok16 : FnOK Try.prog 16 p16 := by
  obtain ⟨H0, h⟩ := run16
  exact PrimOK.closed mixed ap0_ok h rfl
def ap : FuncId → Option AFn := over [(16, p16)] ap0
theorem ap_ok : ∀ f af, ap f = some af → FnOK Try.prog f af := over_ok ⟨ok16, trivial⟩ ap0_ok
theorem a3 : ap 3 = some (.code f3) := by kernel_rfl
theorem a4 : ap 4 = some (.code f4) := by kernel_rfl
theorem a5 : ap 5 = some (.code f5) := by kernel_rfl
theorem a6 : ap 6 = some (.code f6) := by kernel_rfl
theorem a7 : ap 7 = some (.code f7) := by kernel_rfl
theorem a8 : ap 8 = some (.code f8) := by kernel_rfl
theorem a9 : ap 9 = some (.code f9) := by kernel_rfl
theorem a15 : ap 15 = some (.code f15) := by kernel_rfl
theorem a17 : ap 17 = some (.code f17) := by kernel_rfl
theorem a18 : ap 18 = some (.code f18) := by kernel_rfl
theorem a19 : ap 19 = some (.code f19) := by kernel_rfl
theorem a20 : ap 20 = some (.code f20) := by kernel_rfl
theorem a21 : ap 21 = some (.code f21) := by kernel_rfl
theorem a22 : ap 22 = some (.code f22) := by kernel_rfl
theorem a23 : ap 23 = some (.code f23) := by kernel_rfl
theorem a24 : ap 24 = some (.code f24) := by kernel_rfl
theorem a25 : ap 25 = some (.code f25) := by kernel_rfl
theorem a26 : ap 26 = some (.code f26) := by kernel_rfl
theorem a27 : ap 27 = some (.code f27) := by kernel_rfl
theorem a28 : ap 28 = some (.code f28) := by kernel_rfl
theorem a29 : ap 29 = some (.code f29) := by kernel_rfl
theorem a30 : ap 30 = some (.code f30) := by kernel_rfl
theorem a31 : ap 31 = some (.code f31) := by kernel_rfl
theorem a32 : ap 32 = some (.code f32) := by kernel_rfl
theorem a33 : ap 33 = some (.code f33) := by kernel_rfl
theorem a34 : ap 34 = some (.code f34) := by kernel_rfl
theorem a35 : ap 35 = some (.code f35) := by kernel_rfl
theorem a36 : ap 36 = some (.code f36) := by kernel_rfl
theorem a54 : ap 54 = some (.code f54) := by kernel_rfl
theorem a55 : ap 55 = some (.code f55) := by kernel_rfl
theorem a56 : ap 56 = some (.code f56) := by kernel_rfl
theorem a57 : ap 57 = some (.code f57) := by kernel_rfl
theorem a58 : ap 58 = some (.code f58) := by kernel_rfl
theorem a59 : ap 59 = some (.code f59) := by kernel_rfl
theorem a60 : ap 60 = some (.code f60) := by kernel_rfl
theorem a61 : ap 61 = some (.code f61) := by kernel_rfl
theorem a62 : ap 62 = some (.code f62) := by kernel_rfl
theorem a63 : ap 63 = some (.code f63) := by kernel_rfl
theorem a64 : ap 64 = some (.code f64) := by kernel_rfl
theorem a65 : ap 65 = some (.code f65) := by kernel_rfl
theorem a66 : ap 66 = some (.code f66) := by kernel_rfl
theorem a67 : ap 67 = some (.code f67) := by kernel_rfl
theorem a68 : ap 68 = some (.code f68) := by kernel_rfl
theorem a69 : ap 69 = some (.code f69) := by kernel_rfl
theorem a74 : ap 74 = some (.code f74) := by kernel_rfl
theorem a75 : ap 75 = some (.code f75) := by kernel_rfl
theorem a78 : ap 78 = some (.code f78) := by kernel_rfl
theorem b16 {n lim : Nat} {H : Heap} : Ahs.runT ap (n + 1) lim (.fn 16) [] H = some (.bool true, H) := by
  have h : ap 16 = some p16 := by kernel_rfl
  simp only [Ahs.runT, h, p16]
end Go.Proofs.Ytpefhojmfcenfaa.logs
