/- The table of functions; closed ones by what they are known to return. Printed by genw.py. -/
import Derived.Test.YtjflpnahjooffaaDxAp
import Derived.Test.YtjflpnahjooffaaDxLib
import Derived.Test.YtjflpnahjooffaaDxTwM
import Derived.Test.YtjflpnahjooffaaChecked
set_option maxRecDepth 100000
namespace Go.Proofs.Ytjflpnahjooffaa.disk
open Go.Ahs
theorem mixed : Try.prog.follows .mixedOrders = true := Try.checked.mixed
def ap1 : FuncId → Option AFn := over [(52, .prim gList), (83, .prim gJoin), (56, .prim gTwin)] ap0
theorem ap1_ok : ∀ f af, ap1 f = some af → FnOK Try.prog f af := over_ok ⟨list_k, join_k, twin_k, trivial⟩ ap0_ok
theorem run38 : ∃ H0, run ap1 40 0 38 [] Heap.empty = some (.bool true, H0) := isTrue_inv (by kernel_rfl)
def p38 : AFn := .prim fun _ args H => match args with | [] => some (.bool true, H) | _ => none
theorem ok38 : FnOK Try.prog 38 p38 := by
  obtain ⟨H0, h⟩ := run38
  exact PrimOK.closed mixed ap1_ok h rfl
def ap : FuncId → Option AFn := over [(38, p38)] ap1
theorem ap_ok : ∀ f af, ap f = some af → FnOK Try.prog f af := over_ok ⟨ok38, trivial⟩ ap1_ok
theorem a8 : ap 8 = some (.code f8) := by kernel_rfl
theorem a10 : ap 10 = some (.code f10) := by kernel_rfl
theorem a11 : ap 11 = some (.code f11) := by kernel_rfl
theorem a12 : ap 12 = some (.code f12) := by kernel_rfl
theorem a14 : ap 14 = some (.code f14) := by kernel_rfl
theorem a36 : ap 36 = some (.code f36) := by kernel_rfl
theorem a37 : ap 37 = some (.code f37) := by kernel_rfl
theorem a39 : ap 39 = some (.code f39) := by kernel_rfl
theorem a40 : ap 40 = some (.code f40) := by kernel_rfl
theorem a41 : ap 41 = some (.code f41) := by kernel_rfl
theorem a42 : ap 42 = some (.code f42) := by kernel_rfl
theorem a43 : ap 43 = some (.code f43) := by kernel_rfl
theorem a44 : ap 44 = some (.code f44) := by kernel_rfl
theorem a45 : ap 45 = some (.code f45) := by kernel_rfl
theorem a46 : ap 46 = some (.code f46) := by kernel_rfl
theorem a47 : ap 47 = some (.code f47) := by kernel_rfl
theorem a48 : ap 48 = some (.code f48) := by kernel_rfl
theorem a49 : ap 49 = some (.code f49) := by kernel_rfl
theorem a50 : ap 50 = some (.code f50) := by kernel_rfl
theorem a51 : ap 51 = some (.code f51) := by kernel_rfl
theorem a53 : ap 53 = some (.code f53) := by kernel_rfl
theorem a54 : ap 54 = some (.code f54) := by kernel_rfl
theorem a55 : ap 55 = some (.code f55) := by kernel_rfl
theorem a57 : ap 57 = some (.code f57) := by kernel_rfl
theorem a79 : ap 79 = some (.code f79) := by kernel_rfl
theorem a80 : ap 80 = some (.code f80) := by kernel_rfl
theorem a81 : ap 81 = some (.code f81) := by kernel_rfl
theorem a82 : ap 82 = some (.code f82) := by kernel_rfl
theorem a84 : ap 84 = some (.code f84) := by kernel_rfl
theorem a85 : ap 85 = some (.code f85) := by kernel_rfl
theorem a86 : ap 86 = some (.code f86) := by kernel_rfl
theorem a87 : ap 87 = some (.code f87) := by kernel_rfl
theorem a88 : ap 88 = some (.code f88) := by kernel_rfl
theorem a89 : ap 89 = some (.code f89) := by kernel_rfl
theorem a92 : ap 92 = some (.code f92) := by kernel_rfl
theorem a93 : ap 93 = some (.code f93) := by kernel_rfl
theorem a94 : ap 94 = some (.code f94) := by kernel_rfl
theorem a95 : ap 95 = some (.code f95) := by kernel_rfl
theorem a96 : ap 96 = some (.code f96) := by kernel_rfl
theorem a97 : ap 97 = some (.code f97) := by kernel_rfl
theorem a98 : ap 98 = some (.code f98) := by kernel_rfl
theorem a99 : ap 99 = some (.code f99) := by kernel_rfl
theorem a100 : ap 100 = some (.code f100) := by kernel_rfl
theorem a111 : ap 111 = some (.code f111) := by kernel_rfl
theorem a112 : ap 112 = some (.code f112) := by kernel_rfl
theorem a113 : ap 113 = some (.code f113) := by kernel_rfl
theorem a114 : ap 114 = some (.code f114) := by kernel_rfl
theorem a115 : ap 115 = some (.code f115) := by kernel_rfl
theorem a116 : ap 116 = some (.code f116) := by kernel_rfl
theorem b38 {n lim : Nat} {H : Heap} : Ahs.runT ap (n + 1) lim (.fn 38) [] H = some (.bool true, H) := by
  have h : ap 38 = some p38 := by kernel_rfl
  simp only [Ahs.runT, h, p38]
theorem q52 {n lim : Nat} {args : List AVal} {H : Heap} : Ahs.runT ap (n + 1) lim (.fn 52) args H = gList lim args H := by
  have h : ap 52 = some (.prim gList) := by kernel_rfl
  simp only [Ahs.runT, h]
theorem q83 {n lim : Nat} {args : List AVal} {H : Heap} : Ahs.runT ap (n + 1) lim (.fn 83) args H = gJoin lim args H := by
  have h : ap 83 = some (.prim gJoin) := by kernel_rfl
  simp only [Ahs.runT, h]
theorem q56 {n lim : Nat} {args : List AVal} {H : Heap} : Ahs.runT ap (n + 1) lim (.fn 56) args H = gTwin lim args H := by
  have h : ap 56 = some (.prim gTwin) := by kernel_rfl
  simp only [Ahs.runT, h]
end Go.Proofs.Ytjflpnahjooffaa.disk
