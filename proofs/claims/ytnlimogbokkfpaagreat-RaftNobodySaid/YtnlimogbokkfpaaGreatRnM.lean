/- What the functions of raft come to on a nil node, and on one that New did not make. -/
import Derived.Test.YtnlimogbokkfpaaGreatRxPr
import Derived.Test.YtnlimogbokkfpaaGreatRxW0
import Derived.Test.YtnlimogbokkfpaaGreatChsXM
import Derived.Test.YtnlimogbokkfpaaGreatChsX2
import Derived.Test.YtnlimogbokkfpaaGreatChsO2
set_option maxRecDepth 100000
set_option linter.unusedVariables false
set_option linter.unusedSimpArgs false
namespace Go.Proofs.YtnlimogbokkfpaaGreat.rnob
open Go.Ahs
def NoRaft (H : Heap) (p : AVal) : Prop := p = .ptr none ∨ ∃ b, p = .ptr (some (b, 0)) ∧ H.cells b = some z79a6db
theorem NoRaft.keep {H H' : Heap} {p : AVal} (hk : Keeps2 H H') (h : NoRaft H p) : NoRaft H' p := by
 rcases h with rfl | ⟨b, rfl, hc⟩
 ·exact .inl rfl
 ·exact .inr ⟨b, rfl, hk.cells hc⟩
theorem NoRaft.push {H : Heap} {p : AVal} (h : NoRaft H p) (x : Blk) : NoRaft (H.push x) p := h.keep (.push _ _)
theorem fill_row {z y : List AVal} {sz : Nat} (hz : z.length = sz) (hy : y.length = sz) : fillV z [(0, sz, .agg y)] = some y := by
 unfold fillV
 have hc : (AVal.agg y).cells = y := rfl
 rw [hc, if_pos ⟨hy, by omega⟩]
 unfold fillV
 rw [put_all (by omega)]
section
variable {n lim : Nat} {H : Heap} {p : AVal}
theorem no53 (h : NoRaft H p) : Ahs.runT ap (n + 1) lim (.fn 53) [p] H = some (.bool true, H) := by
 refine run_eqn (F53_run a53 ?_)
 unfold F53
 rcases h with rfl | ⟨b, rfl, hc⟩
 ·(repeat (first | ((first | with_reducible apply bindP_intro | with_reducible apply bind2_intro); (focus (first | with_reducible rfl | (simp only [walkR, get0, getS, Nat.zero_add, Nat.add_zero, Bool.not_true, Bool.not_false, decide_true, decide_false, reduceIte, and_self, Bool.false_eq_true] <;> with_reducible rfl)))) | with_reducible apply cond_t | with_reducible apply cond_f))
  exact ⟨rfl, rfl⟩
 ·have h3 : z79a6db[3]? = some (.ptr none) := rfl
  have e1 : eqvO false .ptr (.ptr (some (b, 0))) (.ptr none) = some (.bool false) := rfl
  have e2 : eqvO false .ptr (.ptr none) (.ptr none) = some (.bool true) := rfl
  (repeat (first | ((first | with_reducible apply bindP_intro | with_reducible apply bind2_intro); (focus (first | with_reducible rfl | (simp only [walkR, get0, getS, Nat.zero_add, Nat.add_zero, Bool.not_true, Bool.not_false, decide_true, decide_false, reduceIte, and_self, Bool.false_eq_true, aload_one hc, h3, e1, e2] <;> with_reducible rfl)))) | with_reducible apply cond_t | with_reducible apply cond_f))
  exact ⟨rfl, rfl⟩
theorem no45 (h : NoRaft H p) : Ahs.runT ap (n + 2) lim (.fn 45) [p] H = some (.tup [.int .u64 0, .int .u64 0], H) := by
 refine run_eqn (F45_run a45 ?_)
 unfold F45
 (repeat (first | ((first | with_reducible apply bindP_intro | with_reducible apply bind2_intro); (focus (first | with_reducible rfl | (simp only [walkR, get0, getS, Nat.zero_add, Nat.add_zero, Bool.not_true, Bool.not_false, decide_true, decide_false, reduceIte, and_self, Bool.false_eq_true, no53 h] <;> with_reducible rfl)))) | with_reducible apply cond_t | with_reducible apply cond_f))
 exact ⟨rfl, rfl⟩
theorem no18 (h : NoRaft H p) (a : AVal) : Ahs.runT ap (n + 2) lim (.fn 18) [p, a] H = some (.bool false, H) := by
 refine run_eqn (F18_run a18 ?_)
 unfold F18
 (repeat (first | ((first | with_reducible apply bindP_intro | with_reducible apply bind2_intro); (focus (first | with_reducible rfl | (simp only [walkR, get0, getS, Nat.zero_add, Nat.add_zero, Bool.not_true, Bool.not_false, decide_true, decide_false, reduceIte, and_self, Bool.false_eq_true, no53 h] <;> with_reducible rfl)))) | with_reducible apply cond_t | with_reducible apply cond_f))
 exact ⟨rfl, rfl⟩
theorem no34 (h : NoRaft H p) : Ahs.runT ap (n + 2) lim (.fn 34) [p] H = some (.int .u64 0, H) := by
 refine run_eqn (F34_run a34 ?_)
 unfold F34
 (repeat (first | ((first | with_reducible apply bindP_intro | with_reducible apply bind2_intro); (focus (first | with_reducible rfl | (simp only [walkR, get0, getS, Nat.zero_add, Nat.add_zero, Bool.not_true, Bool.not_false, decide_true, decide_false, reduceIte, and_self, Bool.false_eq_true, no53 h] <;> with_reducible rfl)))) | with_reducible apply cond_t | with_reducible apply cond_f))
 exact ⟨rfl, rfl⟩
theorem no22 (h : NoRaft H p) : Ahs.runT ap (n + 2) lim (.fn 22) [p] H = some (.int .u8 0, H) := by
 refine run_eqn (F22_run a22 ?_)
 unfold F22
 (repeat (first | ((first | with_reducible apply bindP_intro | with_reducible apply bind2_intro); (focus (first | with_reducible rfl | (simp only [walkR, get0, getS, Nat.zero_add, Nat.add_zero, Bool.not_true, Bool.not_false, decide_true, decide_false, reduceIte, and_self, Bool.false_eq_true, no53 h] <;> with_reducible rfl)))) | with_reducible apply cond_t | with_reducible apply cond_f))
 exact ⟨rfl, rfl⟩
theorem no13 (h : NoRaft H p) : Ahs.runT ap (n + 2) lim (.fn 13) [p] H = some (.bool false, H) := by
 refine run_eqn (F13_run a13 ?_)
 unfold F13
 (repeat (first | ((first | with_reducible apply bindP_intro | with_reducible apply bind2_intro); (focus (first | with_reducible rfl | (simp only [walkR, get0, getS, Nat.zero_add, Nat.add_zero, Bool.not_true, Bool.not_false, decide_true, decide_false, reduceIte, and_self, Bool.false_eq_true, no53 h] <;> with_reducible rfl)))) | with_reducible apply cond_t | with_reducible apply cond_f))
 exact ⟨rfl, rfl⟩
theorem no47 (h : NoRaft H p) : Ahs.runT ap (n + 2) lim (.fn 47) [p] H = some (.int .u8 0, H) := by
 refine run_eqn (F47_run a47 ?_)
 unfold F47
 (repeat (first | ((first | with_reducible apply bindP_intro | with_reducible apply bind2_intro); (focus (first | with_reducible rfl | (simp only [walkR, get0, getS, Nat.zero_add, Nat.add_zero, Bool.not_true, Bool.not_false, decide_true, decide_false, reduceIte, and_self, Bool.false_eq_true, no53 h] <;> with_reducible rfl)))) | with_reducible apply cond_t | with_reducible apply cond_f))
 exact ⟨rfl, rfl⟩
theorem no14 (h : NoRaft H p) : Ahs.runT ap (n + 2) lim (.fn 14) [p] H = some (.int .u64 0, H) := by
 refine run_eqn (F14_run a14 ?_)
 unfold F14
 (repeat (first | ((first | with_reducible apply bindP_intro | with_reducible apply bind2_intro); (focus (first | with_reducible rfl | (simp only [walkR, get0, getS, Nat.zero_add, Nat.add_zero, Bool.not_true, Bool.not_false, decide_true, decide_false, reduceIte, and_self, Bool.false_eq_true, no53 h] <;> with_reducible rfl)))) | with_reducible apply cond_t | with_reducible apply cond_f))
 exact ⟨rfl, rfl⟩
theorem no21 (h : NoRaft H p) : Ahs.runT ap (n + 2) lim (.fn 21) [p] H = some (.int .u8 0, H) := by
 refine run_eqn (F21_run a21 ?_)
 unfold F21
 (repeat (first | ((first | with_reducible apply bindP_intro | with_reducible apply bind2_intro); (focus (first | with_reducible rfl | (simp only [walkR, get0, getS, Nat.zero_add, Nat.add_zero, Bool.not_true, Bool.not_false, decide_true, decide_false, reduceIte, and_self, Bool.false_eq_true, no53 h] <;> with_reducible rfl)))) | with_reducible apply cond_t | with_reducible apply cond_f))
 exact ⟨rfl, rfl⟩
theorem no48 (h : NoRaft H p) (a : AVal) : Ahs.runT ap (n + 2) lim (.fn 48) [p, a] H = some (.int .u8 0, H) := by
 refine run_eqn (F48_run a48 ?_)
 unfold F48
 (repeat (first | ((first | with_reducible apply bindP_intro | with_reducible apply bind2_intro); (focus (first | with_reducible rfl | (simp only [walkR, get0, getS, Nat.zero_add, Nat.add_zero, Bool.not_true, Bool.not_false, decide_true, decide_false, reduceIte, and_self, Bool.false_eq_true, no53 h] <;> with_reducible rfl)))) | with_reducible apply cond_t | with_reducible apply cond_f))
 exact ⟨rfl, rfl⟩
theorem no49 (h : NoRaft H p) (a : AVal) : Ahs.runT ap (n + 3) lim (.fn 49) [p, a] H = some (.int .u64 0, H) := by
 refine run_eqn (F49_run a49 ?_)
 unfold F49
 (repeat (first | ((first | with_reducible apply bindP_intro | with_reducible apply bind2_intro); (focus (first | with_reducible rfl | (simp only [walkR, get0, getS, Nat.zero_add, Nat.add_zero, Bool.not_true, Bool.not_false, decide_true, decide_false, reduceIte, and_self, Bool.false_eq_true, no13 h] <;> with_reducible rfl)))) | with_reducible apply cond_t | with_reducible apply cond_f))
 exact ⟨rfl, rfl⟩
theorem no11 (h : NoRaft H p) : Ahs.runT ap (n + 2) lim (.fn 11) [p] H = some (.int .i64 0, H) := by
 refine run_eqn (F11_run a11 ?_)
 unfold F11
 (repeat (first | ((first | with_reducible apply bindP_intro | with_reducible apply bind2_intro); (focus (first | with_reducible rfl | (simp only [walkR, get0, getS, Nat.zero_add, Nat.add_zero, Bool.not_true, Bool.not_false, decide_true, decide_false, reduceIte, and_self, Bool.false_eq_true, no53 h] <;> with_reducible rfl)))) | with_reducible apply cond_t | with_reducible apply cond_f))
 exact ⟨rfl, rfl⟩
theorem no35 (h : NoRaft H p) (a b : AVal) : Ahs.runT ap (n + 2) lim (.fn 35) [p, a, b] H = some (.sl none 0 (.ex 0), H) := by
 refine run_eqn (F35_run a35 ?_)
 unfold F35
 (repeat (first | ((first | with_reducible apply bindP_intro | with_reducible apply bind2_intro); (focus (first | with_reducible rfl | (simp only [walkR, get0, getS, Nat.zero_add, Nat.add_zero, Bool.not_true, Bool.not_false, decide_true, decide_false, reduceIte, and_self, Bool.false_eq_true, no53 h] <;> with_reducible rfl)))) | with_reducible apply cond_t | with_reducible apply cond_f))
 exact ⟨rfl, rfl⟩
theorem place {b : Nat} {z x : List AVal} (h : H.cells b = some z) (hz : z.length = 13) (hx : x.length = 13) (ho : x.all (·.one) = true) (hl : lim ≤ b) :
  astore lim H 13 (.ptr (some (b, 0))) (.agg x) = some (H.set b (.cells x)) ∧ aload (H.set b (.cells x)) (some 13) (.ptr (some (b, 0))) = some (.agg x) ∧ (H.set b (.cells x)).cells b = some x := by
 have hs : (H.set b (.cells x)).cells b = some x := cells_set_same (Heap.cells_lt h)
 refine ⟨?_, aload_all hs hx, hs⟩
 rw [astore_at h hl (n := 13) (o := 0) (x := .agg x) hx (by omega) ho]
 show some (H.set b (.cells (put z 0 x))) = _
 rw [put_all (by omega)]
theorem no32 (h : NoRaft H p) (hl : lim ≤ H.next) : ∃ v H', Ahs.runT ap (n + 2) lim (.fn 32) [p] H = some (v, H') ∧ v = .agg z15c467 ∧ Keeps2 H H' := by
 refine F32_run a32 ?_
 unfold F32
 have hb : buildO z15c467 [] = some (.agg z15c467) := rfl
 have hst : astore lim (H.push (.cells z15c467)) 8 (.ptr (some (H.next, 0))) (.agg z15c467) = some (H.push (.cells z15c467)) := astore_new (cs := z15c467) (x := .agg z15c467) hl rfl rfl rfl
 have hld : aload (H.push (.cells z15c467)) (some 8) (.ptr (some (H.next, 0))) = some (.agg z15c467) := aload_newA H rfl
 (repeat (first | ((first | with_reducible apply bindP_intro | with_reducible apply bind2_intro); (focus (first | with_reducible rfl | (simp only [walkR, get0, getS, Nat.zero_add, Nat.add_zero, Bool.not_true, Bool.not_false, decide_true, decide_false, reduceIte, and_self, Bool.false_eq_true, no53 (h.push _), no53 h, hb, hst, hld] <;> with_reducible rfl)))) | with_reducible apply cond_t | with_reducible apply cond_f))
 exact ⟨rfl, .push _ _⟩
theorem no46 (h : NoRaft H p) (x : List AVal) (ho : (x.all fun v => v.one) = true) : ∃ v H', Ahs.runT ap (n + 2) lim (.fn 46) [p, .agg x] H = some (v, H') ∧ v = .int .i64 1 ∧ Keeps2 H H' := by
 refine F46_run a46 ?_
 unfold F46
 (repeat (first | ((first | with_reducible apply bindP_intro | with_reducible apply bind2_intro); (focus (first | with_reducible rfl | (simp only [walkR, get0, getS, Nat.zero_add, Nat.add_zero, Bool.not_true, Bool.not_false, decide_true, decide_false, reduceIte, and_self, Bool.false_eq_true, ho, no53 (h.push (.cells x))] <;> with_reducible rfl)))) | with_reducible apply cond_t | with_reducible apply cond_f))
 exact ⟨rfl, .push _ _⟩
theorem two_z (H : Heap) (z : List AVal) (hz : z.length = 13) (y : List AVal) : ((H.push (.cells z)).push (.cells y)).cells H.next = some z ∧ ((H.push (.cells z)).push (.cells y)).cells (H.push (.cells z)).next = some y ∧ Keeps2 H ((H.push (.cells z)).push (.cells y)) :=
 ⟨cells_push_old (cells_push_new H _), cells_push_new _ _, (Keeps2.push _ _).trans (.push _ _)⟩
theorem no16 (h : NoRaft H p) (hl : lim ≤ H.next) (a : AVal) : ∃ v H', Ahs.runT ap (n + 2) lim (.fn 16) [p, a] H = some (v, H') ∧ v = .agg z652358 ∧ Keeps2 H H' := by
 refine F16_run a16 ?_
 unfold F16
 obtain ⟨c1, c2, k⟩ := two_z H z652358 rfl z652358
 have h' := h.keep k
 have l2 : aload ((H.push (.cells z652358)).push (.cells z652358)) (some 13) (.ptr (some ((H.push (.cells z652358)).next, 0))) = some (.agg z652358) := aload_all c2 rfl
 obtain ⟨s1, l1, _⟩ := place (lim := lim) (x := z652358) c1 rfl rfl rfl hl
 (repeat (first | ((first | with_reducible apply bindP_intro | with_reducible apply bind2_intro); (focus (first | with_reducible rfl | (simp only [walkR, get0, getS, Nat.zero_add, Nat.add_zero, Bool.not_true, Bool.not_false, decide_true, decide_false, reduceIte, and_self, Bool.false_eq_true, no53 h', l2, s1, l1] <;> with_reducible rfl)))) | with_reducible apply cond_t | with_reducible apply cond_f))
 exact ⟨rfl, k.setNew (Nat.le_refl _) _⟩
theorem no15 (h : NoRaft H p) (hl : lim ≤ H.next) (m : List AVal) (ho : (m.all fun v => v.one) = true) (a : AVal) : ∃ v H', Ahs.runT ap (n + 2) lim (.fn 15) [p, .agg m, a] H = some (v, H') ∧ v = .agg z652358 ∧ Keeps2 H H' := by
 refine F15_run a15 ?_
 unfold F15
 have k0 : Keeps2 H (H.push (.cells m)) := .push _ _
 have n0 : (H.push (.cells m)).next = H.next + 1 := Heap.next_push _ _
 obtain ⟨c1, c2, k⟩ := two_z (H.push (.cells m)) z652358 rfl z652358
 have h' := (h.keep k0).keep k
 have l2 : aload (((H.push (.cells m)).push (.cells z652358)).push (.cells z652358)) (some 13) (.ptr (some (((H.push (.cells m)).push (.cells z652358)).next, 0))) = some (.agg z652358) := aload_all c2 rfl
 obtain ⟨s1, l1, _⟩ := place (lim := lim) (x := z652358) c1 rfl rfl rfl (by omega)
 (repeat (first | ((first | with_reducible apply bindP_intro | with_reducible apply bind2_intro); (focus (first | with_reducible rfl | (simp only [walkR, get0, getS, Nat.zero_add, Nat.add_zero, Bool.not_true, Bool.not_false, decide_true, decide_false, reduceIte, and_self, Bool.false_eq_true, ho, no53 h', l2, s1, l1] <;> with_reducible rfl)))) | with_reducible apply cond_t | with_reducible apply cond_f))
 exact ⟨rfl, (k0.trans k).setNew (by omega) _⟩
theorem no20 (h : NoRaft H p) (hl : lim ≤ H.next) (a : AVal) : ∃ v H', Ahs.runT ap (n + 2) lim (.fn 20) [p, a] H = some (v, H') ∧ v = .tup [.agg z652358, .bool false] ∧ Keeps2 H H' := by
 refine F20_run a20 ?_
 unfold F20
 obtain ⟨c1, c2, k⟩ := two_z H z652358 rfl z652358
 have h' := h.keep k
 have l2 : aload ((H.push (.cells z652358)).push (.cells z652358)) (some 13) (.ptr (some ((H.push (.cells z652358)).next, 0))) = some (.agg z652358) := aload_all c2 rfl
 obtain ⟨s1, l1, _⟩ := place (lim := lim) (x := z652358) c1 rfl rfl rfl hl
 (repeat (first | ((first | with_reducible apply bindP_intro | with_reducible apply bind2_intro); (focus (first | with_reducible rfl | (simp only [walkR, get0, getS, Nat.zero_add, Nat.add_zero, Bool.not_true, Bool.not_false, decide_true, decide_false, reduceIte, and_self, Bool.false_eq_true, no53 h', l2, s1, l1] <;> with_reducible rfl)))) | with_reducible apply cond_t | with_reducible apply cond_f))
 exact ⟨rfl, k.setNew (Nat.le_refl _) _⟩
theorem places {G : Heap} {b c : Nat} (h1 : G.cells b = some z903586) (h2 : G.cells c = some z652358) (hbc : b ≠ c) (hb : lim ≤ b) (hc : lim ≤ c) :
  ∃ G1 G2, astore lim G 13 (.ptr (some (b, 0))) (.agg z903586) = some G1 ∧ astore lim G1 13 (.ptr (some (c, 0))) (.agg z652358) = some G2 ∧ aload G2 (some 13) (.ptr (some (b, 0))) = some (.agg z903586) ∧ aload G2 (some 13) (.ptr (some (c, 0))) = some (.agg z652358) ∧ ∀ {H0 : Heap}, Keeps2 H0 G → H0.next ≤ b → H0.next ≤ c → Keeps2 H0 G2 := by
 obtain ⟨s1, l1, d1⟩ := place (lim := lim) (x := z903586) h1 rfl rfl rfl hb
 have h2' : (G.set b (.cells z903586)).cells c = some z652358 := cells_set_other h2 (Ne.symm hbc)
 obtain ⟨s2, l2, d2⟩ := place (lim := lim) (x := z652358) h2' rfl rfl rfl hc
 exact ⟨_, _, s1, s2, aload_all (cells_set_other d1 hbc) rfl, l2, fun k e1 e2 => (k.setNew e1 _).setNew e2 _⟩
theorem no19 (h : NoRaft H p) (hl : lim ≤ H.next) (a : AVal) : ∃ v H', Ahs.runT ap (n + 2) lim (.fn 19) [p, a] H = some (v, H') ∧ v = .tup [.agg z903586, .agg z652358, .int .u8 2] ∧ Keeps2 H H' := by
 refine F19_run a19 ?_
 unfold F19
 obtain ⟨c1, c2, k⟩ := two_z H z903586 rfl z652358
 have n1 : (H.push (.cells z903586)).next = H.next + 1 := Heap.next_push _ _
 have h' := h.keep k
 have b1 : buildO z903586 [] = some (.agg z903586) := rfl
 have b2 : buildO z652358 [] = some (.agg z652358) := rfl
 obtain ⟨G1, G2, s1, s2, l1, l2, hk⟩ := places (lim := lim) c1 c2 (by omega) hl (by omega)
 (repeat (first | ((first | with_reducible apply bindP_intro | with_reducible apply bind2_intro); (focus (first | with_reducible rfl | (simp only [walkR, get0, getS, Nat.zero_add, Nat.add_zero, Bool.not_true, Bool.not_false, decide_true, decide_false, reduceIte, and_self, Bool.false_eq_true, no53 h', b1, b2, s1, s2, l1, l2] <;> with_reducible rfl)))) | with_reducible apply cond_t | with_reducible apply cond_f))
 exact ⟨rfl, hk k (by omega) (by omega)⟩
theorem no44 (h : NoRaft H p) (hl : lim ≤ H.next) (a b : AVal) (t : List AVal) (ho : (t.all fun v => v.one) = true) (c : AVal) : ∃ v H', Ahs.runT ap (n + 2) lim (.fn 44) [p, a, b, .agg t, c] H = some (v, H') ∧ v = .tup [.agg z903586, .agg z652358, .bool false] ∧ Keeps2 H H' := by
 refine F44_run a44 ?_
 unfold F44
 have k0 : Keeps2 H (H.push (.cells t)) := .push _ _
 have n0 : (H.push (.cells t)).next = H.next + 1 := Heap.next_push _ _
 generalize hG0 : H.push (.cells t) = G0 at *
 obtain ⟨c1, c2, k⟩ := two_z G0 z903586 rfl z652358
 have n1 : (G0.push (.cells z903586)).next = G0.next + 1 := Heap.next_push _ _
 have n2 : ((G0.push (.cells z903586)).push (.cells z652358)).next = G0.next + 2 := by rw [Heap.next_push, n1]
 have k3 : Keeps2 ((G0.push (.cells z903586)).push (.cells z652358)) (((G0.push (.cells z903586)).push (.cells z652358)).push (.cells z652358)) := .push _ _
 have h' := ((h.keep k0).keep k).keep k3
 have b1 : buildO z903586 [] = some (.agg z903586) := rfl
 have l3 : aload (((G0.push (.cells z903586)).push (.cells z652358)).push (.cells z652358)) (some 13) (.ptr (some (((G0.push (.cells z903586)).push (.cells z652358)).next, 0))) = some (.agg z652358) := aload_newA _ rfl
 obtain ⟨G1, G2, s1, s2, l1, l2, hk⟩ := places (lim := lim) (k3.cells c1) (k3.cells c2) (by omega) (by omega) (by omega)
 have ha : apartB (.ptr (some (((G0.push (.cells z903586)).push (.cells z652358)).next, 0))) (.ptr (some (G0.next, 0))) = true := by
  rw [n2]
  show (!(G0.next + 2 == G0.next)) = true
  simp
 (repeat (first | ((first | with_reducible apply bindP_intro | with_reducible apply bind2_intro); (focus (first | with_reducible rfl | (simp only [walkR, get0, getS, Nat.zero_add, Nat.add_zero, Bool.not_true, Bool.not_false, decide_true, decide_false, reduceIte, and_self, Bool.false_eq_true, ho, hG0, no53 h', b1] <;> with_reducible rfl)))) | with_reducible apply cond_t | with_reducible apply cond_f))
 refine ⟨by rw [ha]; rfl, ?_⟩
 (repeat (first | ((first | with_reducible apply bindP_intro | with_reducible apply bind2_intro); (focus (first | with_reducible rfl | (simp only [walkR, get0, getS, Nat.zero_add, Nat.add_zero, Bool.not_true, Bool.not_false, decide_true, decide_false, reduceIte, and_self, Bool.false_eq_true, l3, s1, s2, l1, l2] <;> with_reducible rfl)))) | with_reducible apply cond_t | with_reducible apply cond_f))
 exact ⟨rfl, hk ((k0.trans k).trans k3) (by omega) (by omega)⟩
end
structure RAct where
 d : Int
 kind : Int
 slot : Int
 node : Int
 wait : Int
 mq : Int
 mf : Int
 mt : Int
 mterm : Int
 mix : Int
 mlog : Int
 mcom : Int
 mround : Int
 mok : Bool
 mmem : Int
 msec : Int
 ev : AVal
 mbody : List UInt8
 t0 : Int
 t1 : Int
 t2 : Int
 t3 : Int
 t4 : Int
 t5 : Int
 t6 : Int
 t7 : Int
 body : List UInt8
 id : Int
 six : Int
 sterm : Int
 smem : Int
 s0 : List UInt8
 s1 : List UInt8
 s2 : List UInt8
 s3 : List UInt8
 s4 : List UInt8
def encM (a : RAct) : List AVal := [.int .u8 a.mq, .int .u8 a.mf, .int .u8 a.mt, .int .u64 a.mterm, .int .u64 a.mix, .int .u64 a.mlog, .int .u64 a.mcom, .int .u64 a.mround, .bool a.mok, .int .u8 a.mmem, .int .u8 a.msec, a.ev, .str a.mbody]
def encT (a : RAct) : List AVal := [.int .u8 a.t0, .int .u8 a.t1, .int .u8 a.t2, .int .u8 a.t3, .int .u8 a.t4, .int .u8 a.t5, .int .u8 a.t6, .int .u8 a.t7]
def encN (a : RAct) : List AVal := [.int .u64 a.six, .int .u64 a.sterm, .int .u8 a.smem, .str a.s0, .str a.s1, .str a.s2, .str a.s3, .str a.s4]
def encR (a : RAct) : List AVal := [.int .u8 a.d, .int .u8 a.kind, .int .u8 a.slot, .int .u8 a.node, .int .i64 a.wait, .int .u8 a.mq, .int .u8 a.mf, .int .u8 a.mt, .int .u64 a.mterm, .int .u64 a.mix, .int .u64 a.mlog, .int .u64 a.mcom, .int .u64 a.mround, .bool a.mok, .int .u8 a.mmem, .int .u8 a.msec, a.ev, .str a.mbody,
 .int .u8 a.t0, .int .u8 a.t1, .int .u8 a.t2, .int .u8 a.t3, .int .u8 a.t4, .int .u8 a.t5, .int .u8 a.t6, .int .u8 a.t7, .str a.body, .int .u64 a.id, .int .u64 a.six, .int .u64 a.sterm, .int .u8 a.smem, .str a.s0, .str a.s1, .str a.s2, .str a.s3, .str a.s4]
def Ents (H : Heap) (v : AVal) (xs : List (List AVal)) : Prop := Sl H 13 v xs ∧ ∀ x ∈ xs, ∃ b, x[12]? = some (.str b)
theorem Ents.keep {H H' : Heap} (hk : Keeps2 H H') {v : AVal} {xs : List (List AVal)} (h : Ents H v xs) : Ents H' v xs := ⟨h.1.keep hk, h.2⟩
theorem loadn {H : Heap} {sz : Nat} {v : AVal} {xs : List (List AVal)} (h : Sl H sz v xs) {i : Nat} {x : List AVal} (hx : xs[i]? = some x) {f k : Nat} (hf : f + k ≤ sz) : aload H (some k) (Ahs.slot v (i * sz + f)) = some (.agg ((x.drop f).take k)) := by
 obtain ⟨b, o, cs, _, h1, h2, h3, h4⟩ := h.cut hx
 rw [h1, aload_agg h2]
 unfold Ahs.cut
 rw [if_pos (by omega)]
 have : ((x.drop f).take k) = ((cs.drop (o + f)).take k) := by
  rw [← h4, List.drop_take, List.drop_drop, List.take_take, Nat.min_eq_left (by omega)]
 rw [this]; rfl
section
variable {n lim : Nat} {H : Heap}
theorem big76 (x : Int) (H : Heap) : ∃ b, Ahs.runT ap (n + 1) lim (.fn 76) [.int .u64 x] H = some (.bool b, H) := by
 refine ⟨decide ((1099511627776 : Int) < x), run_eqn (F76_run a76 ?_)⟩
 unfold F76
 (repeat (first | ((first | with_reducible apply bindP_intro | with_reducible apply bind2_intro); (focus (first | with_reducible rfl | (simp only [walkR, get0, getS, Nat.zero_add, Nat.add_zero, Bool.not_true, Bool.not_false, decide_true, decide_false, reduceIte, and_self, Bool.false_eq_true] <;> with_reducible rfl)))) | with_reducible apply cond_t | with_reducible apply cond_f))
 exact ⟨rfl, rfl⟩
theorem great_loop {N : Nat} {R : Caller} {K : AVal → Heap → Prop} {v : AVal} {xs : List (List AVal)} (h : Ents H v xs) (hl : xs.length ≤ 40) (hK : ∀ b, K (.bool b) H) :
  ∀ (f i : Nat), xs.length < f + i → i ≤ xs.length → F75_l0 R lim N K f v (.int .i64 (i : Int)) H
 | 0, i, h1, h2 => by exfalso; omega
 | f + 1, i, h1, h2 => by
  show F75_s0 R lim N K (F75_l0 R lim N K f) v (.int .i64 (i : Int)) H
  unfold F75_s0 F75_j0
  by_cases hi : i < xs.length
  ·have hd : decide ((i : Int) < (xs.length : Int)) = true := dT (by omega)
   obtain ⟨b, hb⟩ := h.2 _ (List.getElem_mem hi)
   have hx : xs[i]? = some xs[i] := List.getElem?_eq_getElem hi
   have l12 : aload H none (slot v (i * 13 + 12)) = some (.str b) := by rw [h.1.loadf hx (by omega)]; exact hb
   have hf : faddrO 12 (slot v (i * 13)) = some (slot v (i * 13 + 12)) := faddr_slot h.1 (by omega) _ _
   by_cases hg : 100 < b.length
   ·have hc : decide ((100 : Int) < (b.length : Int)) = true := dT (by omega)
    (repeat (first | ((first | with_reducible apply bindP_intro | with_reducible apply bind2_intro); (focus (first | with_reducible rfl | (simp only [walkR, get0, getS, Nat.zero_add, Nat.add_zero, Bool.not_true, Bool.not_false, decide_true, decide_false, reduceIte, and_self, Bool.false_eq_true, h.1.len, hd, h.1.addr hi, hf, l12, hc] <;> with_reducible rfl)))) | with_reducible apply cond_t | with_reducible apply cond_f))
    exact hK _
   ·have hc : decide ((100 : Int) < (b.length : Int)) = false := dF (by omega)
    (repeat (first | ((first | with_reducible apply bindP_intro | with_reducible apply bind2_intro); (focus (first | with_reducible rfl | (simp only [walkR, get0, getS, Nat.zero_add, Nat.add_zero, Bool.not_true, Bool.not_false, decide_true, decide_false, reduceIte, and_self, Bool.false_eq_true, h.1.len, hd, h.1.addr hi, hf, l12, hc, i64_succ (show i < 9223372036854775807 by omega)] <;> with_reducible rfl)))) | with_reducible apply cond_t | with_reducible apply cond_f))
    exact great_loop h hl hK f (i + 1) (by omega) (by omega)
  ·have hd : decide ((i : Int) < (xs.length : Int)) = false := dF (by omega)
   (repeat (first | ((first | with_reducible apply bindP_intro | with_reducible apply bind2_intro); (focus (first | with_reducible rfl | (simp only [walkR, get0, getS, Nat.zero_add, Nat.add_zero, Bool.not_true, Bool.not_false, decide_true, decide_false, reduceIte, and_self, Bool.false_eq_true, h.1.len, hd] <;> with_reducible rfl)))) | with_reducible apply cond_t | with_reducible apply cond_f))
   exact hK _
theorem great75 {v : AVal} {xs : List (List AVal)} (h : Ents H v xs) (hn : 50 ≤ n) : ∃ b, Ahs.runT ap (n + 1) lim (.fn 75) [v] H = some (.bool b, H) := by
 have key : ∃ r H', Ahs.runT ap (n + 1) lim (.fn 75) [v] H = some (r, H') ∧ (∃ b, r = .bool b) ∧ H' = H := by
  refine F75_run a75 ?_
  unfold F75
  by_cases hl : 40 < xs.length
  ·have hd : decide ((40 : Int) < (xs.length : Int)) = true := dT (by omega)
   (repeat (first | ((first | with_reducible apply bindP_intro | with_reducible apply bind2_intro); (focus (first | with_reducible rfl | (simp only [walkR, get0, getS, Nat.zero_add, Nat.add_zero, Bool.not_true, Bool.not_false, decide_true, decide_false, reduceIte, and_self, Bool.false_eq_true, h.1.len, hd] <;> with_reducible rfl)))) | with_reducible apply cond_t | with_reducible apply cond_f))
   exact ⟨⟨_, rfl⟩, rfl⟩
  ·have hd : decide ((40 : Int) < (xs.length : Int)) = false := dF (by omega)
   (repeat (first | ((first | with_reducible apply bindP_intro | with_reducible apply bind2_intro); (focus (first | with_reducible rfl | (simp only [walkR, get0, getS, Nat.zero_add, Nat.add_zero, Bool.not_true, Bool.not_false, decide_true, decide_false, reduceIte, and_self, Bool.false_eq_true, h.1.len, hd] <;> with_reducible rfl)))) | with_reducible apply cond_t | with_reducible apply cond_f))
   exact great_loop h (by omega) (fun b => ⟨⟨b, rfl⟩, rfl⟩) n 0 (by omega) (by omega)
 obtain ⟨_, _, h1, ⟨b, rfl⟩, rfl⟩ := key
 exact ⟨b, h1⟩
theorem snap_loop {N : Nat} {K : AVal → Heap → Prop} {b : Nat} {a : RAct} (hb : H.cells b = some (encN a)) (hn : 1 ≤ n) (hK : ∀ v, K (.bool v) H) :
  ∀ (f i : Nat), 5 < f + i → i ≤ 5 → F77_l0 (Ahs.runT ap n) lim N K f (.ptr (some (b, 0))) (.int .i64 (i : Int)) H
 | 0, i, h1, h2 => by exfalso; omega
 | f + 1, i, h1, h2 => by
  show F77_s0 _ lim N K (F77_l0 _ lim N K f) _ _ H
  unfold F77_s0
  by_cases hi : i < 5
  ·have hd : decide ((i : Int) < 5) = true := dT (by omega)
   have hj : natOf (.int .i64 (i : Int)) = some i := by simp [natOf]
   have had : aindexAddr (some 5) 1 (.ptr (some (b, 3))) (.int .i64 (i : Int)) = some (.ptr (some (b, 3 + i))) := by
    unfold aindexAddr
    simp only [hj]
    rw [if_pos hi]; simp
   obtain ⟨t, ht⟩ : ∃ t, (encN a)[3 + i]? = some (.str t) := by
    rcases i with _ | _ | _ | _ | _ | i
    ·exact ⟨a.s0, rfl⟩
    ·exact ⟨a.s1, rfl⟩
    ·exact ⟨a.s2, rfl⟩
    ·exact ⟨a.s3, rfl⟩
    ·exact ⟨a.s4, rfl⟩
    ·omega
   have l1 : aload H none (.ptr (some (b, 3 + i))) = some (.str t) := by rw [aload_one hb]; exact ht
   by_cases hg : 100 < t.length
   ·have hc : decide ((100 : Int) < (t.length : Int)) = true := dT (by omega)
    (repeat (first | ((first | with_reducible apply bindP_intro | with_reducible apply bind2_intro); (focus (first | with_reducible rfl | (simp only [walkR, get0, getS, Nat.zero_add, Nat.add_zero, Bool.not_true, Bool.not_false, decide_true, decide_false, reduceIte, and_self, Bool.false_eq_true, hd, had, l1, hc] <;> with_reducible rfl)))) | with_reducible apply cond_t | with_reducible apply cond_f))
    exact hK _
   ·have hc : decide ((100 : Int) < (t.length : Int)) = false := dF (by omega)
    (repeat (first | ((first | with_reducible apply bindP_intro | with_reducible apply bind2_intro); (focus (first | with_reducible rfl | (simp only [walkR, get0, getS, Nat.zero_add, Nat.add_zero, Bool.not_true, Bool.not_false, decide_true, decide_false, reduceIte, and_self, Bool.false_eq_true, hd, had, l1, hc, i64_succ (show i < 9223372036854775807 by omega)] <;> with_reducible rfl)))) | with_reducible apply cond_t | with_reducible apply cond_f))
    exact snap_loop hb hn hK f (i + 1) (by omega) (by omega)
  ·have hd : decide ((i : Int) < 5) = false := dF (by omega)
   obtain ⟨n', rfl⟩ : ∃ n', n = n' + 1 := ⟨n - 1, by omega⟩
   obtain ⟨c1, r1⟩ := big76 (n := n') (lim := lim) a.six H
   obtain ⟨c2, r2⟩ := big76 (n := n') (lim := lim) a.sterm H
   have l0 : aload H none (.ptr (some (b, 0))) = some (.int .u64 a.six) := by rw [aload_one hb]; rfl
   have l1 : aload H none (.ptr (some (b, 1))) = some (.int .u64 a.sterm) := by rw [aload_one hb]; rfl
   unfold F77_j0
   cases c1 with
   | true =>
    (repeat (first | ((first | with_reducible apply bindP_intro | with_reducible apply bind2_intro); (focus (first | with_reducible rfl | (simp only [walkR, get0, getS, Nat.zero_add, Nat.add_zero, Bool.not_true, Bool.not_false, decide_true, decide_false, reduceIte, and_self, Bool.false_eq_true, hd, l0, r1] <;> with_reducible rfl)))) | with_reducible apply cond_t | with_reducible apply cond_f))
    exact hK _
   | false =>
    (repeat (first | ((first | with_reducible apply bindP_intro | with_reducible apply bind2_intro); (focus (first | with_reducible rfl | (simp only [walkR, get0, getS, Nat.zero_add, Nat.add_zero, Bool.not_true, Bool.not_false, decide_true, decide_false, reduceIte, and_self, Bool.false_eq_true, hd, l0, r1, l1, r2] <;> with_reducible rfl)))) | with_reducible apply cond_t | with_reducible apply cond_f))
    exact hK _
theorem snap77 (a : RAct) (hn : 10 ≤ n) (H : Heap) : ∃ v H', Ahs.runT ap (n + 1) lim (.fn 77) [.agg (encN a)] H = some (v, H') ∧ (∃ b, v = .bool b) ∧ Keeps2 H H' := by
 refine F77_run a77 ?_
 unfold F77
 have ho : ((encN a).all fun x => x.one) = true := rfl
 (repeat (first | ((first | with_reducible apply bindP_intro | with_reducible apply bind2_intro); (focus (first | with_reducible rfl | (simp only [walkR, get0, getS, Nat.zero_add, Nat.add_zero, Bool.not_true, Bool.not_false, decide_true, decide_false, reduceIte, and_self, Bool.false_eq_true, ho] <;> with_reducible rfl)))) | with_reducible apply cond_t | with_reducible apply cond_f))
 exact snap_loop (cells_push_new H _) (by omega) (fun v => ⟨⟨v, rfl⟩, .push _ _⟩) n 0 (by omega) (by omega)
theorem great24 {a : RAct} {xs : List (List AVal)} {v : AVal} (hs : Sl H 36 v [encR a]) (he : Ents H a.ev xs) (hev : a.ev.one = true) (hl : lim ≤ H.next) (hn : 60 ≤ n) :
  ∃ r H', Ahs.runT ap (n + 1) lim (.fn 24) [v] H = some (r, H') ∧ (∃ b, r = .bool b) ∧ Keeps2 H H' := by
 refine F24_run a24 ?_
 unfold F24
 obtain ⟨n', rfl⟩ : ∃ n', n = n' + 2 := ⟨n - 2, by omega⟩
 have hlen : alen false v = some (.int .i64 1) := hs.len
 have hd60 : decide ((60 : Int) < 1) = false := rfl
 have hd0 : decide ((0 : Int) < 1) = true := rfl
 have hd1 : decide ((1 : Int) < 1) = false := rfl
 have hi1 : IntKind.i64.wrap ((0 : Int) + 1) = 1 := rfl
 (repeat (first | ((first | with_reducible apply bindP_intro | with_reducible apply bind2_intro); (focus (first | with_reducible rfl | (simp only [walkR, get0, getS, Nat.zero_add, Nat.add_zero, Bool.not_true, Bool.not_false, decide_true, decide_false, reduceIte, and_self, Bool.false_eq_true, hlen, hd60] <;> with_reducible rfl)))) | with_reducible apply cond_t | with_reducible apply cond_f))
 show F24_s0 _ lim _ _ (F24_l0 _ lim _ _ (n' + 1)) v _ H
 unfold F24_s0
 have had : aindexAddr none 36 v (.int .i64 0) = some (slot v 0) := hs.addr (k := .i64) (i := 0) (by simp)
 have hfa : ∀ o, faddrO o (slot v 0) = some (slot v o) := fun o => by rw [faddr_slot hs (by simp) 0 o, Nat.zero_add]
 have hx : ([encR a] : List (List AVal))[0]? = some (encR a) := rfl
 have lM : aload H (some 13) (slot v 5) = some (.agg (encM a)) := loadn hs hx (i := 0) (f := 5) (k := 13) (by omega)
 have k1 : Keeps2 H (H.push (.cells (encM a))) := .push _ _
 have hoM : (encM a).all (·.one) = true := by
  show (true && (true && (true && (true && (true && (true && (true && (true && (true && (true && (true && (a.ev.one && (true && true))))))))))))) = true
  rw [hev]; rfl
 have st : astore lim (H.push (.cells zced54c)) 13 (.ptr (some (H.next, 0))) (.agg (encM a)) = some (H.push (.cells (encM a))) := astore_new (cs := zced54c) (x := .agg (encM a)) hl rfl rfl hoM
 have cM : (H.push (.cells (encM a))).cells H.next = some (encM a) := cells_push_new _ _
 generalize hG : H.push (.cells (encM a)) = G at *
 have lb : aload G none (slot v 26) = some (.str a.body) := by rw [(hs.keep k1).loadf hx (i := 0) (f := 26) (by omega)]; rfl
 have lmb : aload G none (.ptr (some (H.next, 12))) = some (.str a.mbody) := by rw [aload_one cM]; rfl
 have lme : aload G none (.ptr (some (H.next, 11))) = some a.ev := by rw [aload_one cM]; rfl
 have lm3 : aload G none (.ptr (some (H.next, 3))) = some (.int .u64 a.mterm) := by rw [aload_one cM]; rfl
 have lm4 : aload G none (.ptr (some (H.next, 4))) = some (.int .u64 a.mix) := by rw [aload_one cM]; rfl
 have lm5 : aload G none (.ptr (some (H.next, 5))) = some (.int .u64 a.mlog) := by rw [aload_one cM]; rfl
 have lN : aload G (some 8) (slot v 28) = some (.agg (encN a)) := loadn (hs.keep k1) hx (i := 0) (f := 28) (k := 8) (by omega)
 obtain ⟨b3, r3⟩ := great75 (n := n' + 1) (lim := lim) (he.keep k1) (by omega)
 obtain ⟨b4, r4⟩ := big76 (n := n' + 1) (lim := lim) a.mterm G
 obtain ⟨b5, r5⟩ := big76 (n := n' + 1) (lim := lim) a.mix G
 obtain ⟨b6, r6⟩ := big76 (n := n' + 1) (lim := lim) a.mlog G
 obtain ⟨v7, G7, r7, ⟨b7, rfl⟩, k7⟩ := snap77 (n := n' + 1) (lim := lim) a (by omega) G
 have yes : ∀ b, (∃ c, AVal.bool b = .bool c) ∧ Keeps2 H G := fun b => ⟨⟨b, rfl⟩, k1⟩
 obtain ⟨c1, hc1⟩ : ∃ c, c = decide ((100 : Int) < (a.body.length : Int)) := ⟨_, rfl⟩
 obtain ⟨c2, hc2⟩ : ∃ c, c = decide ((100 : Int) < (a.mbody.length : Int)) := ⟨_, rfl⟩
 cases c1 with
 | true =>
  (repeat (first | ((first | with_reducible apply bindP_intro | with_reducible apply bind2_intro); (focus (first | with_reducible rfl | (simp only [walkR, get0, getS, Nat.zero_add, Nat.add_zero, Bool.not_true, Bool.not_false, decide_true, decide_false, reduceIte, and_self, Bool.false_eq_true, hlen, hd0, had, hfa, lM, hG, st, lb, ← hc1] <;> with_reducible rfl)))) | with_reducible apply cond_t | with_reducible apply cond_f))
  exact yes _
 | false =>
 cases c2 with
 | true =>
  (repeat (first | ((first | with_reducible apply bindP_intro | with_reducible apply bind2_intro); (focus (first | with_reducible rfl | (simp only [walkR, get0, getS, Nat.zero_add, Nat.add_zero, Bool.not_true, Bool.not_false, decide_true, decide_false, reduceIte, and_self, Bool.false_eq_true, hlen, hd0, had, hfa, lM, hG, st, lb, ← hc1, lmb, ← hc2] <;> with_reducible rfl)))) | with_reducible apply cond_t | with_reducible apply cond_f))
  exact yes _
 | false =>
 cases b3 with
 | true =>
  (repeat (first | ((first | with_reducible apply bindP_intro | with_reducible apply bind2_intro); (focus (first | with_reducible rfl | (simp only [walkR, get0, getS, Nat.zero_add, Nat.add_zero, Bool.not_true, Bool.not_false, decide_true, decide_false, reduceIte, and_self, Bool.false_eq_true, hlen, hd0, had, hfa, lM, hG, st, lb, ← hc1, lmb, ← hc2, lme, r3] <;> with_reducible rfl)))) | with_reducible apply cond_t | with_reducible apply cond_f))
  exact yes _
 | false =>
 cases b4 with
 | true =>
  (repeat (first | ((first | with_reducible apply bindP_intro | with_reducible apply bind2_intro); (focus (first | with_reducible rfl | (simp only [walkR, get0, getS, Nat.zero_add, Nat.add_zero, Bool.not_true, Bool.not_false, decide_true, decide_false, reduceIte, and_self, Bool.false_eq_true, hlen, hd0, had, hfa, lM, hG, st, lb, ← hc1, lmb, ← hc2, lme, r3, lm3, r4] <;> with_reducible rfl)))) | with_reducible apply cond_t | with_reducible apply cond_f))
  exact yes _
 | false =>
 cases b5 with
 | true =>
  (repeat (first | ((first | with_reducible apply bindP_intro | with_reducible apply bind2_intro); (focus (first | with_reducible rfl | (simp only [walkR, get0, getS, Nat.zero_add, Nat.add_zero, Bool.not_true, Bool.not_false, decide_true, decide_false, reduceIte, and_self, Bool.false_eq_true, hlen, hd0, had, hfa, lM, hG, st, lb, ← hc1, lmb, ← hc2, lme, r3, lm3, r4, lm4, r5] <;> with_reducible rfl)))) | with_reducible apply cond_t | with_reducible apply cond_f))
  exact yes _
 | false =>
 cases b6 with
 | true =>
  (repeat (first | ((first | with_reducible apply bindP_intro | with_reducible apply bind2_intro); (focus (first | with_reducible rfl | (simp only [walkR, get0, getS, Nat.zero_add, Nat.add_zero, Bool.not_true, Bool.not_false, decide_true, decide_false, reduceIte, and_self, Bool.false_eq_true, hlen, hd0, had, hfa, lM, hG, st, lb, ← hc1, lmb, ← hc2, lme, r3, lm3, r4, lm4, r5, lm5, r6] <;> with_reducible rfl)))) | with_reducible apply cond_t | with_reducible apply cond_f))
  exact yes _
 | false =>
 cases b7 with
 | true =>
  (repeat (first | ((first | with_reducible apply bindP_intro | with_reducible apply bind2_intro); (focus (first | with_reducible rfl | (simp only [walkR, get0, getS, Nat.zero_add, Nat.add_zero, Bool.not_true, Bool.not_false, decide_true, decide_false, reduceIte, and_self, Bool.false_eq_true, hlen, hd0, had, hfa, lM, hG, st, lb, ← hc1, lmb, ← hc2, lme, r3, lm3, r4, lm4, r5, lm5, r6, lN, r7] <;> with_reducible rfl)))) | with_reducible apply cond_t | with_reducible apply cond_f))
  exact ⟨⟨_, rfl⟩, k1.trans k7⟩
 | false =>
  (repeat (first | ((first | with_reducible apply bindP_intro | with_reducible apply bind2_intro); (focus (first | with_reducible rfl | (simp only [walkR, get0, getS, Nat.zero_add, Nat.add_zero, Bool.not_true, Bool.not_false, decide_true, decide_false, reduceIte, and_self, Bool.false_eq_true, hlen, hd0, had, hfa, lM, hG, st, lb, ← hc1, lmb, ← hc2, lme, r3, lm3, r4, lm4, r5, lm5, r6, lN, r7, hi1] <;> with_reducible rfl)))) | with_reducible apply cond_t | with_reducible apply cond_f))
  show F24_s0 _ lim _ _ (F24_l0 _ lim _ _ n') v _ G7
  unfold F24_s0 F24_j0
  (repeat (first | ((first | with_reducible apply bindP_intro | with_reducible apply bind2_intro); (focus (first | with_reducible rfl | (simp only [walkR, get0, getS, Nat.zero_add, Nat.add_zero, Bool.not_true, Bool.not_false, decide_true, decide_false, reduceIte, and_self, Bool.false_eq_true, hlen, hd1] <;> with_reducible rfl)))) | with_reducible apply cond_t | with_reducible apply cond_f))
  exact ⟨⟨_, rfl⟩, k1.trans k7⟩
end
section
variable {n lim N : Nat} {K : AVal → Heap → Prop} {bt : Nat} {a : RAct} {p v : AVal}
theorem awk (H : Heap) : Ahs.runT ap (n + 1) lim (.fn 23) [] H = some (.bool true, H) := q23
theorem nob_j1 {H : Heap} {rec0 : AVal → AVal → AVal → AVal → Heap → Prop} {t28 : AVal} {i : Nat} (ht : H.cells bt = some (encR a)) (hp : NoRaft H p) (hl : lim ≤ H.next) (hi : i < 10)
  (hr : ∀ H', Keeps2 H H' → rec0 (.ptr (some (bt, 0))) v t28 (.int .i64 ((i + 1 : Nat) : Int)) H') :
  F8_j1 (Ahs.runT ap (n + 10)) lim N K rec0 (.ptr (some (bt, 0))) p (.bool false) (.int .u8 2) (.bool false) (.int .u64 0) (.int .u64 0) v t28 (.int .i64 (i : Int)) H := by
 unfold F8_j1
 have q1 : ((2 : Int) != 2) = false := rfl
 have q2 : ((1 : Int) != 1) = false := rfl
 have q3 : ((0 : Int) != 0) = false := rfl
 have l27 : ∀ G, Keeps2 H G → aload G none (.ptr (some (bt, 27))) = some (.int .u64 a.id) := fun G k => by rw [aload_one (k.cells ht)]; rfl
 have l28 : aload H (some 8) (.ptr (some (bt, 28))) = some (.agg (encN a)) := by rw [aload_agg ht]; rfl
 have l3 : ∀ G, Keeps2 H G → aload G none (.ptr (some (bt, 3))) = some (.int .u8 a.node) := fun G k => by rw [aload_one (k.cells ht)]; rfl
 have hoN : ((encN a).all fun v => v.one) = true := rfl
 have hi1 : IntKind.i64.wrap ((i : Int) + 1) = ((i + 1 : Nat) : Int) := i64_succ (by omega)
 (repeat (first | ((first | with_reducible apply bindP_intro | with_reducible apply bind2_intro); (focus (first | with_reducible rfl | (simp only [walkR, get0, getS, Nat.zero_add, Nat.add_zero, Bool.not_true, Bool.not_false, decide_true, decide_false, reduceIte, and_self, Bool.false_eq_true, q1, l27 H (.refl _), no18 (n := n + 8) hp, l28] <;> with_reducible rfl)))) | with_reducible apply cond_t | with_reducible apply cond_f))
 refine bind2_of (no46 (n := n + 8) hp (encN a) hoN) ?_
 rintro _ H1 ⟨rfl, k1⟩
 have hp1 := hp.keep k1
 (repeat (first | ((first | with_reducible apply bindP_intro | with_reducible apply bind2_intro); (focus (first | with_reducible rfl | (simp only [walkR, get0, getS, Nat.zero_add, Nat.add_zero, Bool.not_true, Bool.not_false, decide_true, decide_false, reduceIte, and_self, Bool.false_eq_true, q2, no34 (n := n + 8) hp1, q3, no22 (n := n + 8) hp1, no13 (n := n + 8) hp1, no47 (n := n + 8) hp1, no14 (n := n + 8) hp1, no21 (n := n + 8) hp1, l27 H1 k1, no48 (n := n + 8) hp1, l3 H1 k1, no49 (n := n + 7) hp1, no11 (n := n + 8) hp1, no35 (n := n + 8) hp1] <;> with_reducible rfl)))) | with_reducible apply cond_t | with_reducible apply cond_f))
 refine bind2_of (no32 (n := n + 8) hp1 (by have := k1.next; omega)) ?_
 rintro _ H2 ⟨rfl, k2⟩
 have b1 : buildO z15c467 [] = some (.agg z15c467) := rfl
 have e1 : eqvO true (.cells [(.int .u64), (.int .u64), (.int .u8), .str, .str, .str, .str, .str]) (.agg z15c467) (.agg z15c467) = some (.bool false) := rfl
 (repeat (first | ((first | with_reducible apply bindP_intro | with_reducible apply bind2_intro); (focus (first | with_reducible rfl | (simp only [walkR, get0, getS, Nat.zero_add, Nat.add_zero, Bool.not_true, Bool.not_false, decide_true, decide_false, reduceIte, and_self, Bool.false_eq_true, b1, e1, hi1] <;> with_reducible rfl)))) | with_reducible apply cond_t | with_reducible apply cond_f))
 exact hr H2 (k1.trans k2)
theorem nob_outs {H0 : Heap} {rec0 : AVal → AVal → AVal → AVal → Heap → Prop} {t28 w : AVal} {i : Nat} (ht : H0.cells bt = some (encR a)) (hp : NoRaft H0 p) (hl : lim ≤ H0.next) (hi : i < 10) (hw : Sl H0 13 w (List.replicate 5 z652358))
  (hr : ∀ H', Keeps2 H0 H' → rec0 (.ptr (some (bt, 0))) v t28 (.int .i64 ((i + 1 : Nat) : Int)) H') :
  ∀ (f j : Nat) (H : Heap), 5 < f + j → j ≤ 5 → Keeps2 H0 H →
   F8_l2 (Ahs.runT ap (n + 10)) lim N K rec0 f (.ptr (some (bt, 0))) p (.bool false) (.int .u8 2) (.bool false) (.int .u64 0) (.int .u64 0) v t28 (.int .i64 (i : Int)) w (.int .i64 5) (.int .i64 (j : Int)) H
 | 0, j, H, h1, h2, _ => by exfalso; omega
 | f + 1, j, H, h1, h2, k => by
  show F8_s2 _ lim N K rec0 (F8_l2 _ lim N K rec0 f) _ _ _ _ _ _ _ _ _ _ _ _ _ H
  unfold F8_s2
  by_cases hj : j < 5
  ·have hd : decide ((j : Int) < 5) = true := dT (by omega)
   have hx : (List.replicate 5 z652358)[j]? = some z652358 := by rw [List.getElem?_replicate, if_pos hj]
   have hsl := hw.keep k
   have had : aindexAddr none 13 w (.int .i64 (j : Int)) = some (slot w (j * 13)) := hsl.addr (by simp; omega)
   have hld : aload H (some 13) (slot w (j * 13)) = some (.agg z652358) := hsl.load hx
   have kn := k.next
   have hst : astore lim (H.push (.cells z652358)) 13 (.ptr (some (H.next, 0))) (.agg z652358) = some (H.push (.cells z652358)) := astore_new (cs := z652358) (x := .agg z652358) (by omega) rfl rfl rfl
   have hc : (H.push (.cells z652358)).cells H.next = some z652358 := cells_push_new _ _
   have g0 : aload (H.push (.cells z652358)) none (.ptr (some (H.next, 0))) = some (.sl none 0 (.ex 0)) := by rw [aload_one hc]; rfl
   have g10 : aload (H.push (.cells z652358)) none (.ptr (some (H.next, 10))) = some (.sl none 0 (.ex 0)) := by rw [aload_one hc]; rfl
   have g12 : aload (H.push (.cells z652358)) none (.ptr (some (H.next, 12))) = some (.sl none 0 (.ex 0)) := by rw [aload_one hc]; rfl
   have g1 : aload (H.push (.cells z652358)) none (.ptr (some (H.next, 1))) = some (.bool false) := by rw [aload_one hc]; rfl
   have g11 : aload (H.push (.cells z652358)) none (.ptr (some (H.next, 11))) = some (.bool false) := by rw [aload_one hc]; rfl
   have al : alen false (.sl none 0 (.ex 0)) = some (.int .i64 0) := rfl
   have w0 : IntKind.i64.wrap ((0 : Int) + 0) = 0 := rfl
   have q3 : ((0 : Int) != 0) = false := rfl
   have hj1 : IntKind.i64.wrap ((j : Int) + 1) = ((j + 1 : Nat) : Int) := i64_succ (by omega)
   (repeat (first | ((first | with_reducible apply bindP_intro | with_reducible apply bind2_intro); (focus (first | with_reducible rfl | (simp only [walkR, get0, getS, Nat.zero_add, Nat.add_zero, Bool.not_true, Bool.not_false, decide_true, decide_false, reduceIte, and_self, Bool.false_eq_true, hd, had, hld, hst, g0, al, g10, g12, w0, q3, g1, g11, hj1] <;> with_reducible rfl)))) | with_reducible apply cond_t | with_reducible apply cond_f))
   exact nob_outs ht hp hl hi hw hr f (j + 1) _ (by omega) (by omega) (k.trans (.push _ _))
  ·have hd : decide ((j : Int) < 5) = false := dF (by omega)
   have kn := k.next
   (repeat (first | ((first | with_reducible apply bindP_intro | with_reducible apply bind2_intro); (focus (first | with_reducible rfl | (simp only [walkR, get0, getS, Nat.zero_add, Nat.add_zero, Bool.not_true, Bool.not_false, decide_true, decide_false, reduceIte, and_self, Bool.false_eq_true, hd] <;> with_reducible rfl)))) | with_reducible apply cond_t | with_reducible apply cond_f))
   exact nob_j1 (k.cells ht) (hp.keep k) (by omega) hi fun H' k' => hr H' (k.trans k')
theorem nob_round {H : Heap} {rec0 : AVal → AVal → AVal → AVal → Heap → Prop} {xs : List (List AVal)} {i : Nat} (ht : H.cells bt = some (encR a)) (hev : a.ev.one = true) (hv : Sl H 1 v xs) (hxs : xs.length = 2) (hi : xs[i]? = some [p]) (hp : NoRaft H p) (hl : lim ≤ H.next) (hN : 10 ≤ N)
  (hr : ∀ H', Keeps2 H H' → rec0 (.ptr (some (bt, 0))) v (.int .i64 2) (.int .i64 ((i + 1 : Nat) : Int)) H') :
  F8_s0 (Ahs.runT ap (n + 10)) lim N K rec0 (.ptr (some (bt, 0))) v (.int .i64 2) (.int .i64 (i : Int)) H := by
 have hix : i < 2 := by
  rcases Nat.lt_or_ge i xs.length with h | h
  ·omega
  ·rw [List.getElem?_eq_none h] at hi; simp at hi
 have hd : decide ((i : Int) < 2) = true := dT (by omega)
 unfold F8_s0
 have l4 : ∀ G, Keeps2 H G → aload G none (.ptr (some (bt, 4))) = some (.int .i64 a.wait) := fun G k => by rw [aload_one (k.cells ht)]; rfl
 have l5 : ∀ G, Keeps2 H G → aload G (some 13) (.ptr (some (bt, 5))) = some (.agg (encM a)) := fun G k => by rw [aload_agg (k.cells ht)]; rfl
 have l1 : ∀ G, Keeps2 H G → aload G none (.ptr (some (bt, 1))) = some (.int .u8 a.kind) := fun G k => by rw [aload_one (k.cells ht)]; rfl
 have l2 : ∀ G, Keeps2 H G → aload G none (.ptr (some (bt, 2))) = some (.int .u8 a.slot) := fun G k => by rw [aload_one (k.cells ht)]; rfl
 have l18 : ∀ G, Keeps2 H G → aload G (some 8) (.ptr (some (bt, 18))) = some (.agg (encT a)) := fun G k => by rw [aload_agg (k.cells ht)]; rfl
 have l26 : ∀ G, Keeps2 H G → aload G none (.ptr (some (bt, 26))) = some (.str a.body) := fun G k => by rw [aload_one (k.cells ht)]; rfl
 have l3 : ∀ G, Keeps2 H G → aload G none (.ptr (some (bt, 3))) = some (.int .u8 a.node) := fun G k => by rw [aload_one (k.cells ht)]; rfl
 have hoM : ((encM a).all fun v => v.one) = true := by
  show (true && (true && (true && (true && (true && (true && (true && (true && (true && (true && (true && (a.ev.one && (true && true))))))))))))) = true
  rw [hev]; rfl
 have hoT : ((encT a).all fun v => v.one) = true := rfl
 have st : ∀ G : Heap, lim ≤ G.next → astore lim (G.push (.cells z652358)) 13 (.ptr (some (G.next, 0))) (.agg z652358) = some (G.push (.cells z652358)) := fun G hG => astore_new (cs := z652358) (x := .agg z652358) hG rfl rfl rfl
 have ld : ∀ G : Heap, (G.push (.cells z652358)).cells G.next = some z652358 := fun G => cells_push_new _ _
 (repeat (first | ((first | with_reducible apply bindP_intro | with_reducible apply bind2_intro); (focus (first | with_reducible rfl | (simp only [walkR, get0, getS, Nat.zero_add, Nat.add_zero, Bool.not_true, Bool.not_false, decide_true, decide_false, reduceIte, and_self, Bool.false_eq_true, hd, hv.addr (k := .i64) (i := i) (by omega), hv.load1 hi, l4 H (.refl _)] <;> with_reducible rfl)))) | with_reducible apply cond_t | with_reducible apply cond_f))
 refine bind2_of (no16 (n := n + 8) hp hl _) ?_
 rintro _ H1 ⟨rfl, k1⟩
 have n1 := k1.next
 have kA : Keeps2 H (H1.push (.cells z652358)) := k1.trans (.push _ _)
 have nA : (H1.push (.cells z652358)).next = H1.next + 1 := Heap.next_push _ _
 have cA := ld H1
 (repeat (first | ((first | with_reducible apply bindP_intro | with_reducible apply bind2_intro); (focus (first | with_reducible rfl | (simp only [walkR, get0, getS, Nat.zero_add, Nat.add_zero, Bool.not_true, Bool.not_false, decide_true, decide_false, reduceIte, and_self, Bool.false_eq_true, st H1 (by omega), l5 _ kA, l4 _ kA] <;> with_reducible rfl)))) | with_reducible apply cond_t | with_reducible apply cond_f))
 refine bind2_of (no15 (n := n + 8) (hp.keep kA) (by omega) (encM a) hoM _) ?_
 rintro _ H2 ⟨rfl, k2⟩
 have n2 := k2.next
 have kB : Keeps2 (H1.push (.cells z652358)) (H2.push (.cells z652358)) := k2.trans (.push _ _)
 have nB : (H2.push (.cells z652358)).next = H2.next + 1 := Heap.next_push _ _
 have cB := ld H2
 have kAB := kA.trans kB
 (repeat (first | ((first | with_reducible apply bindP_intro | with_reducible apply bind2_intro); (focus (first | with_reducible rfl | (simp only [walkR, get0, getS, Nat.zero_add, Nat.add_zero, Bool.not_true, Bool.not_false, decide_true, decide_false, reduceIte, and_self, Bool.false_eq_true, st H2 (by omega), l1 _ kAB, l2 _ kAB, l18 _ kAB, l26 _ kAB] <;> with_reducible rfl)))) | with_reducible apply cond_t | with_reducible apply cond_f))
 refine bind2_of (no44 (n := n + 8) (hp.keep kAB) (by omega) _ _ (encT a) hoT _) ?_
 rintro _ H3 ⟨rfl, k3⟩
 have n3 := k3.next
 obtain ⟨c1, c2, kz⟩ := two_z H3 z903586 rfl z652358
 have m1 : (H3.push (.cells z903586)).next = H3.next + 1 := Heap.next_push _ _
 obtain ⟨G1, G2, s1, s2, _, ldC, hk⟩ := places (lim := lim) c1 c2 (by omega) (by omega) (by omega)
 have kC : Keeps2 (H2.push (.cells z652358)) G2 := k3.trans (hk kz (by omega) (by omega))
 have nC := kC.next
 have kABC := kAB.trans kC
 (repeat (first | ((first | with_reducible apply bindP_intro | with_reducible apply bind2_intro); (focus (first | with_reducible rfl | (simp only [walkR, get0, getS, Nat.zero_add, Nat.add_zero, Bool.not_true, Bool.not_false, decide_true, decide_false, reduceIte, and_self, Bool.false_eq_true, s1, s2, l3 _ kABC] <;> with_reducible rfl)))) | with_reducible apply cond_t | with_reducible apply cond_f))
 refine bind2_of (no19 (n := n + 8) (hp.keep kABC) (by omega) _) ?_
 rintro _ H4 ⟨rfl, k4⟩
 have n4 := k4.next
 obtain ⟨d1, d2, kz'⟩ := two_z H4 z903586 rfl z652358
 have m2 : (H4.push (.cells z903586)).next = H4.next + 1 := Heap.next_push _ _
 obtain ⟨G3, G4, s3, s4, _, ldD, hk'⟩ := places (lim := lim) d1 d2 (by omega) (by omega) (by omega)
 have kD : Keeps2 G2 G4 := k4.trans (hk' kz' (by omega) (by omega))
 have nD := kD.next
 have kABCD := kABC.trans kD
 (repeat (first | ((first | with_reducible apply bindP_intro | with_reducible apply bind2_intro); (focus (first | with_reducible rfl | (simp only [walkR, get0, getS, Nat.zero_add, Nat.add_zero, Bool.not_true, Bool.not_false, decide_true, decide_false, reduceIte, and_self, Bool.false_eq_true, s3, s4, l3 _ kABCD] <;> with_reducible rfl)))) | with_reducible apply cond_t | with_reducible apply cond_f))
 refine bind2_of (no20 (n := n + 8) (hp.keep kABCD) (by omega) _) ?_
 rintro _ H5 ⟨rfl, k5⟩
 have n5 := k5.next
 have kE : Keeps2 G4 (H5.push (.cells z652358)) := k5.trans (.push _ _)
 have nE : (H5.push (.cells z652358)).next = H5.next + 1 := Heap.next_push _ _
 have cE := ld H5
 have kall := kABCD.trans kE
 have hpE := hp.keep kall
 have lA : aload (H5.push (.cells z652358)) (some 13) (.ptr (some (H1.next, 0))) = some (.agg z652358) := aload_all ((((kB.trans kC).trans kD).trans kE).cells cA) rfl
 have lB : aload (H5.push (.cells z652358)) (some 13) (.ptr (some (H2.next, 0))) = some (.agg z652358) := aload_all (((kC.trans kD).trans kE).cells cB) rfl
 have lC : aload (H5.push (.cells z652358)) (some 13) (.ptr (some ((H3.push (.cells z903586)).next, 0))) = some (.agg z652358) := aload_keep (kD.trans kE) ldC
 have lD : aload (H5.push (.cells z652358)) (some 13) (.ptr (some ((H4.push (.cells z903586)).next, 0))) = some (.agg z652358) := aload_keep kE ldD
 have lE : aload (H5.push (.cells z652358)) (some 13) (.ptr (some (H5.next, 0))) = some (.agg z652358) := aload_all cE rfl
 have hfill : fillV z63cf7f [(0, 13, .agg z652358), (13, 13, .agg z652358), (26, 13, .agg z652358), (39, 13, .agg z652358), (52, 13, .agg z652358)] = some z63cf7f := rfl
 have al5 : ∀ b, alen false (.sl (some (b, 0)) 5 (.ex 5)) = some (.int .i64 5) := fun b => rfl
 (repeat (first | ((first | with_reducible apply bindP_intro | with_reducible apply bind2_intro); (focus (first | with_reducible rfl | (simp only [walkR, get0, getS, Nat.zero_add, Nat.add_zero, Bool.not_true, Bool.not_false, decide_true, decide_false, reduceIte, and_self, Bool.false_eq_true, st H5 (by omega), no45 (n := n + 8) hpE, lA, lB, lC, lD, lE, hfill, al5] <;> with_reducible rfl)))) | with_reducible apply cond_t | with_reducible apply cond_f))
 have kF : Keeps2 (H5.push (.cells z652358)) ((H5.push (.cells z652358)).push (.cells z63cf7f)) := .push _ _
 have nF := kF.next
 have hw : Sl ((H5.push (.cells z652358)).push (.cells z63cf7f)) 13 (.sl (some ((H5.push (.cells z652358)).next, 0)) 5 (.ex 5)) (List.replicate 5 z652358) :=
  ⟨.inr ⟨(H5.push (.cells z652358)).next, 0, .ex 5, z63cf7f, rfl, Nat.le_refl 5, cells_push_new _ _, by decide, rfl⟩, by decide⟩
 exact nob_outs ((kall.trans kF).cells ht) (hpE.keep kF) (by omega) (by omega) hw (fun H' k' => hr H' ((kall.trans kF).trans k')) N 0 _ (by omega) (by omega) (.refl _)
theorem nobody {H : Heap} {xs : List (List AVal)} (he : Ents H a.ev xs) (hev : a.ev.one = true) (hl : lim ≤ H.next) : ∃ r H', Ahs.runT ap (n + 71) lim (.fn 8) [.agg (encR a)] H = some (r, H') ∧ r = .bool true := by
 refine F8_run a8 ?_
 unfold F8
 have ho : ((encR a).all fun x => x.one) = true := by
  show (true && (true && (true && (true && (true && (true && (true && (true && (true && (true && (true && (true && (true && (true && (true && (true && (a.ev.one && (((encR a).drop 17).all fun x => x.one)))))))))))))))))) = true
  rw [hev]; rfl
 have k1 : Keeps2 H (H.push (.cells (encR a))) := .push _ _
 have l36 : aload (H.push (.cells (encR a))) (some 36) (.ptr (some (H.next, 0))) = some (.agg (encR a)) := aload_newA H rfl
 have hf : fillV zf04ada [(0, 36, .agg (encR a))] = some (encR a) := fill_row rfl rfl
 have c1 : (H.push (.cells (encR a))).cells H.next = some (encR a) := cells_push_new _ _
 (repeat (first | ((first | with_reducible apply bindP_intro | with_reducible apply bind2_intro); (focus (first | with_reducible rfl | (simp only [walkR, get0, getS, Nat.zero_add, Nat.add_zero, Bool.not_true, Bool.not_false, decide_true, decide_false, reduceIte, and_self, Bool.false_eq_true, ho, l36, hf] <;> with_reducible rfl)))) | with_reducible apply cond_t | with_reducible apply cond_f))
 have n1 : (H.push (.cells (encR a))).next = H.next + 1 := Heap.next_push _ _
 generalize hG : H.push (.cells (encR a)) = G at *
 have k2 : Keeps2 G (G.push (.cells (encR a))) := .push _ _
 have n2 : (G.push (.cells (encR a))).next = G.next + 1 := Heap.next_push _ _
 have hs : Sl (G.push (.cells (encR a))) 36 (.sl (some (G.next, 0)) 1 (.ex 1)) [encR a] :=
  ⟨.inr ⟨G.next, 0, .ex 1, encR a, rfl, Nat.le_refl 1, cells_push_new _ _, Nat.le_refl 36, by show (encR a).take 36 = encR a ++ []; rw [List.append_nil, List.take_of_length_le (Nat.le_refl 36)]⟩, fun x hx => by simp at hx; rw [hx]; rfl⟩
 refine bind2_of (great24 (n := n + 69) (a := a) hs (he.keep (k1.trans k2)) hev (by omega) (by omega)) ?_
 rintro _ H1 ⟨⟨b, rfl⟩, k3⟩
 have n3 := k3.next
 cases b with
 | true =>
  (repeat (first | ((first | with_reducible apply bindP_intro | with_reducible apply bind2_intro); (focus (first | with_reducible rfl | (simp only [walkR, get0, getS, Nat.zero_add, Nat.add_zero, Bool.not_true, Bool.not_false, decide_true, decide_false, reduceIte, and_self, Bool.false_eq_true, awk (n := n + 69)] <;> with_reducible rfl)))) | with_reducible apply cond_t | with_reducible apply cond_f))
  exact rfl
 | false =>
  have hb : buildO z79a6db [] = some (.agg z79a6db) := rfl
  have ho2 : (z79a6db.all fun x => x.one) = true := rfl
  have hf2 : ∀ x, fillV [(.ptr none), (.ptr none)] [(0, 1, (.ptr none)), (1, 1, .ptr x)] = some [.ptr none, .ptr x] := fun x => rfl
  have al2 : ∀ b, alen false (.sl (some (b, 0)) 2 (.ex 2)) = some (.int .i64 2) := fun b => rfl
  (repeat (first | ((first | with_reducible apply bindP_intro | with_reducible apply bind2_intro); (focus (first | with_reducible rfl | (simp only [walkR, get0, getS, Nat.zero_add, Nat.add_zero, Bool.not_true, Bool.not_false, decide_true, decide_false, reduceIte, and_self, Bool.false_eq_true, hb, ho2, hf2, al2] <;> with_reducible rfl)))) | with_reducible apply cond_t | with_reducible apply cond_f))
  generalize h2 : H1.push (.cells z79a6db) = H2
  generalize h3 : H2.push (.cells [.ptr none, .ptr (some (H1.next, 0))]) = H3
  have k12 : Keeps2 H1 H2 := by rw [← h2]; exact .push _ _
  have k23 : Keeps2 H2 H3 := by rw [← h3]; exact .push _ _
  have k13 := k12.trans k23
  have hc : H3.cells H.next = some (encR a) := (k13.cells (k3.cells (k2.cells c1)))
  have hp : NoRaft H3 (.ptr (some (H1.next, 0))) := .inr ⟨_, rfl, k23.cells (by rw [← h2]; exact cells_push_new _ _)⟩
  have hv : Sl H3 1 (.sl (some (H2.next, 0)) 2 (.ex 2)) [[.ptr none], [.ptr (some (H1.next, 0))]] :=
   ⟨.inr ⟨H2.next, 0, .ex 2, [.ptr none, .ptr (some (H1.next, 0))], rfl, Nat.le_refl 2, by rw [← h3]; exact cells_push_new _ _, Nat.le_refl 2, rfl⟩, by simp⟩
  have n13 := k13.next
  show F8_s0 _ lim _ _ (F8_l0 _ lim _ _ (n + 69)) _ _ _ _ H3
  refine nob_round (n := n + 60) hc hev hv rfl (i := 0) rfl (.inl rfl) (by omega) (by omega) fun H4 k4 => ?_
  have n4 := k4.next
  show F8_s0 _ lim _ _ (F8_l0 _ lim _ _ (n + 68)) _ _ _ _ H4
  refine nob_round (n := n + 60) (k4.cells hc) hev (hv.keep k4) rfl (i := 1) rfl (hp.keep k4) (by omega) (by omega) fun H5 k5 => ?_
  show F8_s0 _ lim _ _ (F8_l0 _ lim _ _ (n + 67)) _ _ _ _ H5
  unfold F8_s0 F8_j0
  have hd : decide (((1 + 1 : Nat) : Int) < 2) = false := rfl
  (repeat (first | ((first | with_reducible apply bindP_intro | with_reducible apply bind2_intro); (focus (first | with_reducible rfl | (simp only [walkR, get0, getS, Nat.zero_add, Nat.add_zero, Bool.not_true, Bool.not_false, decide_true, decide_false, reduceIte, and_self, Bool.false_eq_true, hd, awk (n := n + 69)] <;> with_reducible rfl)))) | with_reducible apply cond_t | with_reducible apply cond_f))
  exact rfl
end
theorem isTrue_run {ap : FuncId → Option AFn} {n lim : Nat} {f : FuncId} {args : List AVal} {H : Heap} (h : ∃ (v : AVal) (H' : Heap), Ahs.runT ap n lim (.fn f) args H = some (v, H') ∧ v = .bool true) : Ahs.isTrue (Ahs.run ap n lim f args H) = true := by
 obtain ⟨v, H', h1, rfl⟩ := h
 unfold Ahs.run
 rw [h1]; rfl
def entTy : Ty := .int .u64 (.int .u64 (.int .u8 (.int .u8 (.int .u8 (.int .u8 (.int .u8 (.int .u8 (.int .u8 (.int .u8 (.int .u8 (.int .u8 (.str .nil))))))))))))
def actTy : Ty := .int .u8 (.int .u8 (.int .u8 (.int .u8 (.int .i64 (.int .u8 (.int .u8 (.int .u8 (.int .u64 (.int .u64 (.int .u64 (.int .u64 (.int .u64 (.bool (.int .u8 (.int .u8 (.slice entTy (.str (.int .u8 (.int .u8 (.int .u8 (.int .u8 (.int .u8 (.int .u8 (.int .u8 (.int .u8 (.str (.int .u64 (.int .u64 (.int .u64 (.int .u8 (.str (.str (.str (.str (.str .nil)))))))))))))))))))))))))))))))))))
theorem ents_of {H : Heap} {v : AVal} (h : ∃ xs, Sl H entTy.size v xs ∧ xs.length ≤ maxLen ∧ ∀ x ∈ xs, Wf H entTy x) : ∃ xs, Ents H v xs := by
 obtain ⟨xs, h1, _, h3⟩ := h
 refine ⟨xs, h1, fun x hx => ?_⟩
 obtain ⟨_, _, rfl, _, _, _, rfl, _, _, _, rfl, _, _, _, rfl, _, _, _, rfl, _, _, _, rfl, _, _, _, rfl, _, _, _, rfl, _, _, _, rfl, _, _, _, rfl, _, _, _, rfl, _, _, _, rfl, _, b, _, rfl, _, rfl⟩ := h3 x hx
 exact ⟨b, rfl⟩
theorem nobody_walk (H : Heap) (vs : List AVal) (h : WfArgs H [(true, actTy)] vs) : ∃ n, isTrue (run ap n H.next 8 vs H) = true := by
 obtain ⟨x, _, rfl, h1, rfl⟩ := h
 obtain ⟨cs, rfl, d, _, rfl, _, kind, _, rfl, _, slot, _, rfl, _, node, _, rfl, _, wait, _, rfl, _, mq, _, rfl, _, mf, _, rfl, _, mt, _, rfl, _, mterm, _, rfl, _, mix, _, rfl, _, mlog, _, rfl, _, mcom, _, rfl, _, mround, _, rfl, _, mok, _, rfl, mmem, _, rfl, _, msec, _, rfl, _, ev, _, rfl, hev, hes, mbody, _, rfl, _, t0, _, rfl, _, t1, _, rfl, _, t2, _, rfl, _, t3, _, rfl, _, t4, _, rfl, _, t5, _, rfl, _, t6, _, rfl, _, t7, _, rfl, _, body, _, rfl, _, id, _, rfl, _, six, _, rfl, _, sterm, _, rfl, _, smem, _, rfl, _, s0, _, rfl, _, s1, _, rfl, _, s2, _, rfl, _, s3, _, rfl, _, s4, _, rfl, _, rfl⟩ := h1
 obtain ⟨xs, he⟩ := ents_of hes
 refine ⟨71, isTrue_run ?_⟩
 exact nobody (n := 0) (a := ⟨d, kind, slot, node, wait, mq, mf, mt, mterm, mix, mlog, mcom, mround, mok, mmem, msec, ev, mbody, t0, t1, t2, t3, t4, t5, t6, t7, body, id, six, sterm, smem, s0, s1, s2, s3, s4⟩) he hev (Nat.le_refl _)
end Go.Proofs.YtnlimogbokkfpaaGreat.rnob
