/- LogsOwn's call. -/
import Derived.Test.YtpefhojmfcenfaaLgOwn
import Derived.Test.YtpefhojmfcenfaaLgAgreeW
set_option maxRecDepth 100000
namespace Go.Proofs.Ytpefhojmfcenfaa.logs
open Go.Ahs

theorem own_walk (H : Heap) (vs : List AVal) (h : WfArgs H [(false, .int .u64 .nil), (false, .int .u64 .nil), (false, .slice entTy .nil), (false, .slice (.int .u8 .nil) .nil)] vs) :
    ∃ n, isTrue (run ap n H.next 5 vs H) = true := by
  obtain ⟨a0, _, rfl, h0, a1, _, rfl, h1, a2, _, rfl, h2, a3, _, rfl, h3, rfl⟩ := h
  obtain ⟨i, rfl, hi⟩ := arg_u64 h0
  obtain ⟨t, rfl, ht⟩ := arg_u64 h1
  obtain ⟨l, hl, _, okl⟩ := arg_ents h2
  obtain ⟨rs, hr, hrl, _⟩ := arg_bytes h3
  exact isTrue_of (n := 0) (k := 100) (owns hl hr okl hrl (Nat.le_refl _) hi ht)
end Go.Proofs.Ytpefhojmfcenfaa.logs
