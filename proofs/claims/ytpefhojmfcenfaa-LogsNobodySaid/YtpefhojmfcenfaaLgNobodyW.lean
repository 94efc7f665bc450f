/- LogsNobody's call. -/
import Derived.Test.YtpefhojmfcenfaaLgNobody
import Derived.Test.YtpefhojmfcenfaaLgOpen
set_option maxRecDepth 100000
namespace Go.Proofs.Ytpefhojmfcenfaa.logs
open Go.Ahs

theorem nobody_walk (H : Heap) (vs : List AVal) (h : WfArgs H [(true, .int .u8 (.int .u64 (.int .u64 (.int .u8 (.slice entTy .nil)))))] vs) : ∃ n, isTrue (run ap n H.next 8 vs H) = true := by
  obtain ⟨a, _, rfl, h1, rfl⟩ := h
  obtain ⟨cs, rfl, d, _, rfl, _, ix, _, rfl, _, tm, _, rfl, _, mb, _, rfl, _, ev, _, rfl, hev, hes, rfl⟩ := h1
  obtain ⟨es, he, _, _⟩ := wf_ents hes
  obtain ⟨v, H', hr, rfl⟩ := nobody (n := 0) (d := d) (ix := ix) (tm := tm) (mb := mb) he hev (Nat.le_refl _)
  exact ⟨60, by show isTrue (Ahs.runT ap 60 H.next (.fn 8) _ H) = true; rw [hr]; rfl⟩
end Go.Proofs.Ytpefhojmfcenfaa.logs
