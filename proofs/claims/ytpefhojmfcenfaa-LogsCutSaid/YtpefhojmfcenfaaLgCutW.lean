/- LogsCut's call. -/
import Derived.Test.YtpefhojmfcenfaaLgCut
import Derived.Test.YtpefhojmfcenfaaLgAgreeW
set_option maxRecDepth 100000
namespace Go.Proofs.Ytpefhojmfcenfaa.logs
open Go.Ahs

theorem cut_walk (H : Heap) (vs : List AVal) (h : WfArgs H [(false, .int .u64 .nil), (false, .int .u64 .nil), (false, .int .u8 .nil), (false, .slice entTy .nil), (false, .slice (.int .u8 .nil) .nil), (false, .int .u8 .nil), (false, .int .u8 .nil)] vs) :
    ∃ n, isTrue (run ap n H.next 6 vs H) = true := by
  obtain ⟨a0, _, rfl, h0, a1, _, rfl, h1, a2, _, rfl, h2, a3, _, rfl, h3, a4, _, rfl, h4, a5, _, rfl, h5, a6, _, rfl, h6, rfl⟩ := h
  obtain ⟨i, rfl, hi⟩ := arg_u64 h0
  obtain ⟨t, rfl, ht⟩ := arg_u64 h1
  obtain ⟨mb, rfl, _⟩ := arg_u8 h2
  obtain ⟨l, hl, _, okl⟩ := arg_ents h3
  obtain ⟨rs, hr, hrl, _⟩ := arg_bytes h4
  obtain ⟨p, rfl, hp⟩ := arg_u8 h5
  obtain ⟨q, rfl, hq⟩ := arg_u8 h6
  exact isTrue_of (n := 0) (k := 2000) (cuts hl hr okl hrl (Nat.le_refl _) hi ht hp hq)
end Go.Proofs.Ytpefhojmfcenfaa.logs
