/- ConfMeets' call. -/
import Derived.Test.YtpefhojmfcenfaaCfMeetsLaw
namespace Go.Proofs.Ytpefhojmfcenfaa.conf
open Go.Ahs Go.RowKit

theorem wf_u8 {n : Int} (h : (Lit.int .u8 n).wf = true) : ∃ m : Nat, m < 256 ∧ n = (m : Int) := by
  have h' : (0 : Int) ≤ n ∧ n ≤ 255 := by
    simp [Lit.wf, IntKind.min, IntKind.max, IntKind.signed, IntKind.bits] at h
    exact h
  exact ⟨n.toNat, by omega, by omega⟩

theorem meets_walk (a b x y : Int) (ha : (Lit.int .u8 a).wf = true) (hb : (Lit.int .u8 b).wf = true) (hx : (Lit.int .u8 x).wf = true) (hy : (Lit.int .u8 y).wf = true) (W : World) :
    Calls Try.prog 11 #[.int .u8 a, .int .u8 b, .int .u8 x, .int .u8 y] W fun e w' => e = .returned (.bool true) ∧ Below W.heap.size W w' := by
  obtain ⟨a, ka, rfl⟩ := wf_u8 ha
  obtain ⟨b, kb, rfl⟩ := wf_u8 hb
  obtain ⟨x, kx, rfl⟩ := wf_u8 hx
  obtain ⟨y, ky, rfl⟩ := wf_u8 hy
  refine calls_true (H := Heap.empty) mixed ap2_ok (n := 20) (f := 11) (args := [.int .u8 (a : Int), .int .u8 (b : Int), .int .u8 (x : Int), .int .u8 (y : Int)]) ?_ (Rel.empty _ W) (fun _ _ => rfl) ?_
  · rw [meets _ _ ka kb kx ky]; rfl
  · exact LRel.cons (.int _ _) (LRel.cons (.int _ _) (LRel.cons (.int _ _) (LRel.cons (.int _ _) (LRel.nil _))))
end Go.Proofs.Ytpefhojmfcenfaa.conf
