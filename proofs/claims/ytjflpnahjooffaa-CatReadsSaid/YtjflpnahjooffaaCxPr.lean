/- The table of functions; closed ones by what they are known to return. Printed by genw.py. -/
import Derived.Test.YtjflpnahjooffaaCxAp
import Derived.Test.YtjflpnahjooffaaCyKM
import Derived.Test.YtjflpnahjooffaaChecked
set_option maxRecDepth 100000
namespace Go.Proofs.Ytjflpnahjooffaa.cat
open Go.Ahs
theorem mixed : Try.prog.follows .mixedOrders = true := Try.checked.mixed
def ap1 : FuncId → Option AFn := over [(67, .prim catm.g67), (73, .prim catm.g73), (74, .prim catm.g74)] ap0
theorem ap1_ok : ∀ f af, ap1 f = some af → FnOK Try.prog f af := over_ok ⟨catm.keys_ok, catm.many_ok, catm.del_ok, trivial⟩ ap0_ok
theorem run19 : ∃ H0, run ap1 40 0 19 [] Heap.empty = some (.bool true, H0) := isTrue_inv (by kernel_rfl)
def p19 : AFn := .prim fun _ args H => match args with | [] => some (.bool true, H) | _ => none
theorem ok19 : FnOK Try.prog 19 p19 := by
  obtain ⟨H0, h⟩ := run19
  exact PrimOK.closed mixed ap1_ok h rfl
def ap : FuncId → Option AFn := over [(19, p19)] ap1
theorem ap_ok : ∀ f af, ap f = some af → FnOK Try.prog f af := over_ok ⟨ok19, trivial⟩ ap1_ok
theorem a3 : ap 3 = some (.code f3) := by kernel_rfl
theorem a15 : ap 15 = some (.code f15) := by kernel_rfl
theorem a16 : ap 16 = some (.code f16) := by kernel_rfl
theorem a17 : ap 17 = some (.code f17) := by kernel_rfl
theorem a18 : ap 18 = some (.code f18) := by kernel_rfl
theorem a20 : ap 20 = some (.code f20) := by kernel_rfl
theorem a22 : ap 22 = some (.code f22) := by kernel_rfl
theorem a23 : ap 23 = some (.code f23) := by kernel_rfl
theorem a24 : ap 24 = some (.code f24) := by kernel_rfl
theorem a25 : ap 25 = some (.code f25) := by kernel_rfl
theorem a28 : ap 28 = some (.code f28) := by kernel_rfl
theorem a31 : ap 31 = some (.code f31) := by kernel_rfl
theorem a32 : ap 32 = some (.code f32) := by kernel_rfl
theorem a34 : ap 34 = some (.code f34) := by kernel_rfl
theorem a35 : ap 35 = some (.code f35) := by kernel_rfl
theorem a58 : ap 58 = some (.code f58) := by kernel_rfl
theorem a59 : ap 59 = some (.code f59) := by kernel_rfl
theorem a60 : ap 60 = some (.code f60) := by kernel_rfl
theorem a61 : ap 61 = some (.code f61) := by kernel_rfl
theorem a62 : ap 62 = some (.code f62) := by kernel_rfl
theorem a63 : ap 63 = some (.code f63) := by kernel_rfl
theorem a64 : ap 64 = some (.code f64) := by kernel_rfl
theorem a65 : ap 65 = some (.code f65) := by kernel_rfl
theorem a66 : ap 66 = some (.code f66) := by kernel_rfl
theorem a68 : ap 68 = some (.code f68) := by kernel_rfl
theorem a69 : ap 69 = some (.code f69) := by kernel_rfl
theorem a70 : ap 70 = some (.code f70) := by kernel_rfl
theorem a71 : ap 71 = some (.code f71) := by kernel_rfl
theorem a72 : ap 72 = some (.code f72) := by kernel_rfl
theorem a78 : ap 78 = some (.code f78) := by kernel_rfl
theorem a103 : ap 103 = some (.code f103) := by kernel_rfl
theorem b19 {n lim : Nat} {H : Heap} : Ahs.runT ap (n + 1) lim (.fn 19) [] H = some (.bool true, H) := by
  have h : ap 19 = some p19 := by kernel_rfl
  simp only [Ahs.runT, h, p19]
theorem q67 {n lim : Nat} {args : List AVal} {H : Heap} : Ahs.runT ap (n + 1) lim (.fn 67) args H = catm.g67 lim args H := by
  have h : ap 67 = some (.prim catm.g67) := by kernel_rfl
  simp only [Ahs.runT, h]
theorem q73 {n lim : Nat} {args : List AVal} {H : Heap} : Ahs.runT ap (n + 1) lim (.fn 73) args H = catm.g73 lim args H := by
  have h : ap 73 = some (.prim catm.g73) := by kernel_rfl
  simp only [Ahs.runT, h]
theorem q74 {n lim : Nat} {args : List AVal} {H : Heap} : Ahs.runT ap (n + 1) lim (.fn 74) args H = catm.g74 lim args H := by
  have h : ap 74 = some (.prim catm.g74) := by kernel_rfl
  simp only [Ahs.runT, h]
end Go.Proofs.Ytjflpnahjooffaa.cat
