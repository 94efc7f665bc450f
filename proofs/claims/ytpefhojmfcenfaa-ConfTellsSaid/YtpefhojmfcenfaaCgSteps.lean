/- ConfSteps. -/
import Derived.Test.YtpefhojmfcenfaaCgLists
import Derived.Test.YtpefhojmfcenfaaBhsO2
set_option maxRecDepth 100000
set_option linter.unusedVariables false
set_option linter.unusedSimpArgs false
namespace Go.Proofs.Ytpefhojmfcenfaa.conf
open Go.Ahs

/-! ## Numbers -/

theorem bit_small (x : Nat) : ∃ y, y < 7 ∧ bitN x = bitN y := by
  by_cases h : x < 7
  · exact ⟨x, h, rfl⟩
  · exact ⟨0, by omega, by unfold bitN; rw [if_neg (by omega), if_neg (by omega)]⟩

theorem has_bit {m x y : Nat} (h : bitN x = bitN y) : hasN m x = hasN m y := by unfold hasN; rw [h]
theorem add_bit {m x y : Nat} (h : bitN x = bitN y) : addN m x = addN m y := by unfold addN; rw [has_bit h, h]
theorem out_bit {m x y : Nat} (h : bitN x = bitN y) : outN m x = outN m y := by unfold outN; rw [has_bit h, h]

theorem own_eq {m : Nat} (hm : m < 256) : ofN (listN m) = m &&& 31 := by
  have := allBelow_get (p := fun m => ofN (listN m) == (m &&& 31)) (n := 256) (by kernel_rfl) m hm
  simpa using this

def addChk (m x : Nat) : Bool := (addN m x).2 != 0 || (nearN m (addN m x).1 && hasN (addN m x).1 x && (outN (addN m x).1 x == (m &&& 31, 0)))
def outChk (m x : Nat) : Bool := (outN m x).2 != 0 || (nearN m (outN m x).1 && !hasN (outN m x).1 x && (addN (outN m x).1 x == (m &&& 31, 0)))

theorem add_ok {m : Nat} (hm : m < 256) (x : Nat) : addChk m x = true := by
  obtain ⟨y, hy, hb⟩ := bit_small x
  have h := allBelow_get (p := fun m => allBelow (addChk m) 7) (n := 256) (by kernel_rfl) m hm
  have := allBelow_get h y hy
  unfold addChk at this ⊢
  rw [add_bit hb, has_bit hb, out_bit hb]
  exact this

theorem out_ok {m : Nat} (hm : m < 256) (x : Nat) : outChk m x = true := by
  obtain ⟨y, hy, hb⟩ := bit_small x
  have h := allBelow_get (p := fun m => allBelow (outChk m) 7) (n := 256) (by kernel_rfl) m hm
  have := allBelow_get h y hy
  unfold outChk at this ⊢
  rw [out_bit hb, has_bit hb, add_bit hb]
  exact this

theorem add_lt {m x : Nat} : (addN m x).1 < 256 := by
  unfold addN
  split
  · decide
  · split
    · decide
    · exact and31_lt _
theorem out_lt {m x : Nat} : (outN m x).1 < 256 := by
  unfold outN
  split
  · decide
  · split
    · exact and31_lt _
    · decide

theorem won31 (m v : Nat) : wonN m v = wonN (m &&& 31) (v &&& 31) := by
  unfold wonN
  have e : (m &&& 31 &&& 31) = m &&& 31 := by rw [Nat.and_assoc]; rfl
  have e2 : (m &&& 31) &&& (v &&& 31) = (m &&& 31) &&& v := by rw [Nat.and_comm v 31, ← Nat.and_assoc, e]
  rw [e, e2]
theorem lt32 (m : Nat) : m &&& 31 < 32 := Nat.lt_of_le_of_lt Nat.and_le_right (by decide)
theorem or31 (v b : Nat) : (v ||| b) &&& 31 = ((v &&& 31) ||| (b &&& 31)) := Nat.and_or_distrib_right ..

theorem won_more (m v x : Nat) (h : wonN m v = true) : wonN m (v ||| bitN x) = true := by
  obtain ⟨y, hy, hb⟩ := bit_small x
  have c := allBelow_get (allBelow_get (allBelow_get (p := fun m => allBelow (fun v => allBelow (fun y => !wonN m v || wonN m ((v &&& 31) ||| (bitN y &&& 31))) 7) 32) (n := 32) (by kernel_rfl) _ (lt32 m)) _ (lt32 v)) y hy
  rw [won31] at h
  rw [won31, or31, hb]
  simp only [h, Bool.not_true, Bool.false_or] at c
  rw [show (v &&& 31) &&& 31 = v &&& 31 by rw [Nat.and_assoc]; rfl] at c
  exact c
theorem won_all (m : Nat) : wonN m m = !((m &&& 31) == 0) := by
  have c := allBelow_get (p := fun m => wonN m m == !(m == 0)) (n := 32) (by kernel_rfl) _ (lt32 m)
  rw [won31]
  simpa using c
theorem won_zero (m : Nat) : wonN m 0 = false := by
  have c := allBelow_get (p := fun m => !wonN m 0) (n := 32) (by kernel_rfl) _ (lt32 m)
  rw [won31]
  simpa using c
theorem won_own (m v : Nat) : wonN (m &&& 31) v = wonN m v := by
  rw [won31 m v, won31 (m &&& 31) v, show (m &&& 31) &&& 31 = m &&& 31 by rw [Nat.and_assoc]; rfl]

theorem list_lt (m : Nat) : ∀ x ∈ listN m, x < 256 := by
  intro x hx
  have := (List.mem_filter.1 hx).1
  rw [List.mem_range'] at this
  omega
theorem list_len (m : Nat) : (listN m).length ≤ 5 := by
  have := List.length_filter_le (hasN m) (List.range' 1 5)
  simpa [listN] using this

/-! ## The statement -/

section
variable {H : Heap} {n lim : Nat}

theorem steps_end {K : AVal → Heap → Prop} {m v x : Nat} (hm : m < 256) (hv : v < 256) (hx : x < 256) (hK : ∀ H, K (.bool true) H) : F14_j0 (Ahs.runT ap (n + 9)) lim (n + 9) K (.int .u8 (m : Int)) (.int .u8 (v : Int)) (.int .u8 (x : Int)) (.int .u8 ((m &&& 31 : Nat) : Int)) H := by
  unfold F14_j0
  have h0 : (0 : Int) = ((0 : Nat) : Int) := rfl
  have hw0 : Ahs.runT ap (n + 9) lim (.fn 41) [.int .u8 (m : Int), .int .u8 0] H = some (.bool false, H) := by rw [h0, won41 (n := n + 7) hm (by omega), won_zero]
  have hwm := won_all m
  have he : (((m &&& 31 : Nat) : Int) != 0) = !((m &&& 31) == 0) := cast_ne0 _
  have hpick : ∀ b : Bool, eqvO true .bool (.bool b) (.bool b) = some (.bool false) := fun b => by cases b <;> rfl
  have hpick2 : ∀ b : Bool, eqvO false .bool (.bool b) (.bool b) = some (.bool true) := fun b => by cases b <;> rfl
  cases hw : wonN m v with
  | true =>
    have hf : fillV [(.int .u8 0)] [(0, 1, .int .u8 (x : Int))] = some [.int .u8 (x : Int)] := rfl
    have hs : Sl (H.push (.cells [.int .u8 (x : Int)])) 1 (.sl (some (H.next, 0)) 1 (.ex 1)) (u8s [x]) := sl_one rfl
    have ho := of40 (n := n + 7) (lim := lim) hs (fun y hy => by simp at hy; omega) (by simp) (by simp)
    have hof : ofN [x] = bitN x := by simp [ofN]
    rw [hof] at ho
    have hmore := won_more m v x hw
    have hw0' : ∀ H, Ahs.runT ap (n + 9) lim (.fn 41) [.int .u8 (m : Int), .int .u8 0] H = some (.bool false, H) := by intro H; rw [h0, won41 (n := n + 7) hm (by omega), won_zero]
    (repeat (first | (with_reducible apply bindP_intro; (focus (first | with_reducible rfl | (simp only [walkR, get0, getS, Nat.zero_add, Nat.add_zero, Bool.not_true, Bool.not_false, decide_true, decide_false, reduceIte, and_self, Bool.false_eq_true, won41 (n := n + 7) hm hv, hw, hf, ho, abin_or, ior_u8 hv (bitN_lt x), won41 (n := n + 7) hm (or_lt hv (bitN_lt x)), hmore, won41 (n := n + 7) hm hm, hwm, he, hpick, hw0', won41 (n := n + 7) (and31_lt m) hv, won_own, hpick2, b39] <;> with_reducible rfl)))) | (with_reducible apply bind2_intro; (focus (first | with_reducible rfl | (simp only [walkR, get0, getS, Nat.zero_add, Nat.add_zero, Bool.not_true, Bool.not_false, decide_true, decide_false, reduceIte, and_self, Bool.false_eq_true, won41 (n := n + 7) hm hv, hw, hf, ho, abin_or, ior_u8 hv (bitN_lt x), won41 (n := n + 7) hm (or_lt hv (bitN_lt x)), hmore, won41 (n := n + 7) hm hm, hwm, he, hpick, hw0', won41 (n := n + 7) (and31_lt m) hv, won_own, hpick2, b39] <;> with_reducible rfl)))) | with_reducible apply cond_t | with_reducible apply cond_f))
    exact hK _
  | false =>
    (repeat (first | (with_reducible apply bindP_intro; (focus (first | with_reducible rfl | (simp only [walkR, get0, getS, Nat.zero_add, Nat.add_zero, Bool.not_true, Bool.not_false, decide_true, decide_false, reduceIte, and_self, Bool.false_eq_true, won41 (n := n + 7) hm hv, hw, won41 (n := n + 7) hm hm, hwm, he, hpick, hw0, won41 (n := n + 7) (and31_lt m) hv, won_own, hpick2, b39] <;> with_reducible rfl)))) | (with_reducible apply bind2_intro; (focus (first | with_reducible rfl | (simp only [walkR, get0, getS, Nat.zero_add, Nat.add_zero, Bool.not_true, Bool.not_false, decide_true, decide_false, reduceIte, and_self, Bool.false_eq_true, won41 (n := n + 7) hm hv, hw, won41 (n := n + 7) hm hm, hwm, he, hpick, hw0, won41 (n := n + 7) (and31_lt m) hv, won_own, hpick2, b39] <;> with_reducible rfl)))) | with_reducible apply cond_t | with_reducible apply cond_f))
    exact hK _

theorem steps_mid {K : AVal → Heap → Prop} {m v x : Nat} (hm : m < 256) (hv : v < 256) (hx : x < 256) (hK : ∀ H, K (.bool true) H) : F14_j1 (Ahs.runT ap (n + 9)) lim (n + 9) K (.int .u8 (m : Int)) (.int .u8 (v : Int)) (.int .u8 (x : Int)) (.int .u8 ((m &&& 31 : Nat) : Int)) H := by
  unfold F14_j1
  have c := out_ok hm x
  unfold outChk at c
  have hlt := @out_lt m x
  by_cases h0 : (outN m x).2 = 0
  · have d0 : (((outN m x).2 : Int) == 0) = true := by rw [h0]; rfl
    simp only [h0, bne_self_eq_false, Bool.false_or, Bool.and_eq_true, Bool.not_eq_true', beq_iff_eq] at c
    obtain ⟨⟨c1, c2⟩, c3⟩ := c
    have e1 : (addN (outN m x).1 x).1 = m &&& 31 := by rw [c3]
    have e2 : (addN (outN m x).1 x).2 = 0 := by rw [c3]
    have d1 : (((m &&& 31 : Nat) : Int) != ((m &&& 31 : Nat) : Int)) = false := by simp
    have d2 : (((0 : Nat) : Int) != 0) = false := rfl
    (repeat (first | (with_reducible apply bindP_intro; (focus (first | with_reducible rfl | (simp only [walkR, get0, getS, Nat.zero_add, Nat.add_zero, Bool.not_true, Bool.not_false, decide_true, decide_false, reduceIte, and_self, Bool.false_eq_true, out49 (n := n + 6) hm hx, d0, add47 (n := n + 6) hlt hx, e1, e2, near42 (n := n + 7) hm hlt, c1, has43 (n := n + 7) hlt hx, c2, d2, d1] <;> with_reducible rfl)))) | (with_reducible apply bind2_intro; (focus (first | with_reducible rfl | (simp only [walkR, get0, getS, Nat.zero_add, Nat.add_zero, Bool.not_true, Bool.not_false, decide_true, decide_false, reduceIte, and_self, Bool.false_eq_true, out49 (n := n + 6) hm hx, d0, add47 (n := n + 6) hlt hx, e1, e2, near42 (n := n + 7) hm hlt, c1, has43 (n := n + 7) hlt hx, c2, d2, d1] <;> with_reducible rfl)))) | with_reducible apply cond_t | with_reducible apply cond_f))
    exact steps_end hm hv hx hK
  · have d0 : (((outN m x).2 : Int) == 0) = false := by rw [Bool.eq_false_iff]; simp; omega
    (repeat (first | (with_reducible apply bindP_intro; (focus (first | with_reducible rfl | (simp only [walkR, get0, getS, Nat.zero_add, Nat.add_zero, Bool.not_true, Bool.not_false, decide_true, decide_false, reduceIte, and_self, Bool.false_eq_true, out49 (n := n + 6) hm hx, d0] <;> with_reducible rfl)))) | (with_reducible apply bind2_intro; (focus (first | with_reducible rfl | (simp only [walkR, get0, getS, Nat.zero_add, Nat.add_zero, Bool.not_true, Bool.not_false, decide_true, decide_false, reduceIte, and_self, Bool.false_eq_true, out49 (n := n + 6) hm hx, d0] <;> with_reducible rfl)))) | with_reducible apply cond_t | with_reducible apply cond_f))
    exact steps_end hm hv hx hK

theorem steps14 {m v x : Nat} (hm : m < 256) (hv : v < 256) (hx : x < 256) (hl : lim ≤ H.next) : ∃ r H', Ahs.runT ap (n + 20) lim (.fn 14) [.int .u8 (m : Int), .int .u8 (v : Int), .int .u8 (x : Int)] H = some (r, H') ∧ r = .bool true := by
  refine F14_run (n := n + 19) (K := fun r _ => r = .bool true) a14 ?_
  unfold F14
  obtain ⟨l, H1, e1, e2⟩ := list38 (n := n + 16) (H := H) (lim := lim) hm hl (by omega)
  have ho := of40 (n := n + 17) (lim := lim) e2.sl (list_lt m) (by have := list_len m; omega) (by have := list_len m; omega)
  rw [own_eq hm] at ho
  have c := add_ok hm x
  unfold addChk at c
  have hlt := @add_lt m x
  by_cases h0 : (addN m x).2 = 0
  · have d0 : (((addN m x).2 : Int) == 0) = true := by rw [h0]; rfl
    simp only [h0, bne_self_eq_false, Bool.false_or, Bool.and_eq_true, Bool.not_eq_true', beq_iff_eq] at c
    obtain ⟨⟨c1, c2⟩, c3⟩ := c
    have e3 : (outN (addN m x).1 x).1 = m &&& 31 := by rw [c3]
    have e4 : (outN (addN m x).1 x).2 = 0 := by rw [c3]
    have d1 : (((m &&& 31 : Nat) : Int) != ((m &&& 31 : Nat) : Int)) = false := by simp
    have d2 : (((0 : Nat) : Int) != 0) = false := rfl
    (repeat (first | (with_reducible apply bindP_intro; (focus (first | with_reducible rfl | (simp only [walkR, get0, getS, Nat.zero_add, Nat.add_zero, Bool.not_true, Bool.not_false, decide_true, decide_false, reduceIte, and_self, Bool.false_eq_true, e1, ho, add47 (n := n + 16) hm hx, d0, out49 (n := n + 16) hlt hx, e3, e4, near42 (n := n + 17) hm hlt, c1, has43 (n := n + 17) hlt hx, c2, d2, d1] <;> with_reducible rfl)))) | (with_reducible apply bind2_intro; (focus (first | with_reducible rfl | (simp only [walkR, get0, getS, Nat.zero_add, Nat.add_zero, Bool.not_true, Bool.not_false, decide_true, decide_false, reduceIte, and_self, Bool.false_eq_true, e1, ho, add47 (n := n + 16) hm hx, d0, out49 (n := n + 16) hlt hx, e3, e4, near42 (n := n + 17) hm hlt, c1, has43 (n := n + 17) hlt hx, c2, d2, d1] <;> with_reducible rfl)))) | with_reducible apply cond_t | with_reducible apply cond_f))
    exact steps_mid (n := n + 10) hm hv hx fun _ => rfl
  · have d0 : (((addN m x).2 : Int) == 0) = false := by rw [Bool.eq_false_iff]; simp; omega
    (repeat (first | (with_reducible apply bindP_intro; (focus (first | with_reducible rfl | (simp only [walkR, get0, getS, Nat.zero_add, Nat.add_zero, Bool.not_true, Bool.not_false, decide_true, decide_false, reduceIte, and_self, Bool.false_eq_true, e1, ho, add47 (n := n + 16) hm hx, d0] <;> with_reducible rfl)))) | (with_reducible apply bind2_intro; (focus (first | with_reducible rfl | (simp only [walkR, get0, getS, Nat.zero_add, Nat.add_zero, Bool.not_true, Bool.not_false, decide_true, decide_false, reduceIte, and_self, Bool.false_eq_true, e1, ho, add47 (n := n + 16) hm hx, d0] <;> with_reducible rfl)))) | with_reducible apply cond_t | with_reducible apply cond_f))
    exact steps_mid (n := n + 10) hm hv hx fun _ => rfl

theorem wfU8 {n : Int} (h : (Lit.int .u8 n).wf = true) : ∃ m : Nat, n = (m : Int) ∧ m < 256 := by
  have h' : (0 : Int) ≤ n ∧ n ≤ 255 := by
    simp [Lit.wf, IntKind.min, IntKind.max, IntKind.signed, IntKind.bits] at h
    exact h
  exact ⟨n.toNat, by omega, by omega⟩
theorem wfU64 {n : Int} (h : (Lit.int .u64 n).wf = true) : ∃ m : Nat, n = (m : Int) ∧ m < 18446744073709551616 := by
  have h' : (0 : Int) ≤ n ∧ n ≤ 18446744073709551615 := by
    simp [Lit.wf, IntKind.min, IntKind.max, IntKind.signed, IntKind.bits] at h
    exact h
  exact ⟨n.toNat, by omega, by omega⟩
theorem arg_u8 {H : Heap} {a : AVal} (h : if false = true then ∃ cs, a = .agg cs ∧ Wf H (.int .u8 .nil) cs else Wf H (.int .u8 .nil) [a]) : ∃ m : Nat, a = .int .u8 (m : Int) ∧ m < 256 := by
  obtain ⟨x, _, h1, h2, _⟩ := h
  simp at h1
  obtain ⟨m, rfl, hm⟩ := wfU8 h2
  exact ⟨m, h1.1, hm⟩
theorem arg_u64 {H : Heap} {a : AVal} (h : if false = true then ∃ cs, a = .agg cs ∧ Wf H (.int .u64 .nil) cs else Wf H (.int .u64 .nil) [a]) : ∃ m : Nat, a = .int .u64 (m : Int) ∧ m < 18446744073709551616 := by
  obtain ⟨x, _, h1, h2, _⟩ := h
  simp at h1
  obtain ⟨m, rfl, hm⟩ := wfU64 h2
  exact ⟨m, h1.1, hm⟩
theorem isTrue_of {r : Option (AVal × Heap)} (h : ∃ v H', r = some (v, H') ∧ v = .bool true) : isTrue r = true := by
  obtain ⟨v, H', rfl, rfl⟩ := h
  rfl

theorem steps_walk (H : Heap) (vs : List AVal) (h : WfArgs H [(false, .int .u8 .nil), (false, .int .u8 .nil), (false, .int .u8 .nil)] vs) : ∃ n, isTrue (run ap n H.next 14 vs H) = true := by
  obtain ⟨a0, _, rfl, h0, a1, _, rfl, h1, a2, _, rfl, h2, rfl⟩ := h
  obtain ⟨m, rfl, hm⟩ := arg_u8 h0
  obtain ⟨v, rfl, hv⟩ := arg_u8 h1
  obtain ⟨x, rfl, hx⟩ := arg_u8 h2
  exact ⟨0 + 20, isTrue_of (steps14 hm hv hx (Nat.le_refl _))⟩
end
end Go.Proofs.Ytpefhojmfcenfaa.conf
