/- What the sort of few numbers comes to. -/
import Derived.Test.YtpefhojmfcenfaaCgSteps
set_option maxRecDepth 100000
set_option linter.unusedVariables false
set_option linter.unusedSimpArgs false
namespace Go.Proofs.Ytpefhojmfcenfaa.conf
open Go.Ahs

def u64s (l : List Nat) : List (List AVal) := l.map fun (n : Nat) => [.int .u64 (n : Int)]
theorem u64s_get {l : List Nat} {i : Nat} (h : i < l.length) : (u64s l)[i]? = some [.int .u64 (l[i] : Int)] := by simp [u64s, h]
theorem u64s_len (l : List Nat) : (u64s l).length = l.length := by simp [u64s]
theorem u64s_set (l : List Nat) (k a : Nat) : (u64s l).set k [.int .u64 (a : Int)] = u64s (l.set k a) := by simp [u64s, List.map_set]
theorem u64s_app (l : List Nat) (n : Nat) : u64s l ++ [[.int .u64 (n : Int)]] = u64s (l ++ [n]) := by simp [u64s]

/-- Rising up to a place (which is not counted). -/
def UpTo (xs : List Nat) (i : Nat) : Prop := ∀ p q, p < q → q < i → xs.getD p 0 ≤ xs.getD q 0

theorem getD_get {xs : List Nat} {i : Nat} (h : i < xs.length) : xs.getD i 0 = xs[i] := by simp [h]

theorem getD_swap {xs : List Nat} {j : Nat} (h0 : 0 < j) (h : j < xs.length) (p : Nat) :
    ((xs.set j xs[j - 1]).set (j - 1) xs[j]).getD p 0 = if p = j - 1 then xs[j] else if p = j then xs[j - 1] else xs.getD p 0 := by
  rw [List.getD_eq_getElem?_getD, List.getElem?_set, List.getElem?_set]
  simp only [List.length_set]
  by_cases e : j - 1 = p
  · subst e
    rw [if_pos rfl, if_pos (by omega), if_pos rfl]; rfl
  · rw [if_neg e, if_neg (show ¬ p = j - 1 from fun h => e h.symm)]
    by_cases e2 : j = p
    · subst e2
      rw [if_pos rfl, if_pos h, if_pos rfl]; rfl
    · rw [if_neg e2, if_neg (show ¬ p = j from fun h => e2 h.symm), ← List.getD_eq_getElem?_getD]

section
variable {n lim : Nat}

theorem nan95 {H : Heap} (a : Nat) : Ahs.runT ap (n + 1) lim (.fn 95) [.int .u64 (a : Int)] H = some (.bool false, H) := by
  refine run_eqn (F95_run (n := n) a95 ?_)
  unfold F95
  have : ((a : Int) != (a : Int)) = false := by simp
  (repeat (first | (with_reducible apply bindP_intro; (focus (first | with_reducible rfl | (simp only [walkR, get0, getS, Nat.zero_add, Nat.add_zero, Bool.not_true, Bool.not_false, decide_true, decide_false, reduceIte, and_self, Bool.false_eq_true, this] <;> with_reducible rfl)))) | (with_reducible apply bind2_intro; (focus (first | with_reducible rfl | (simp only [walkR, get0, getS, Nat.zero_add, Nat.add_zero, Bool.not_true, Bool.not_false, decide_true, decide_false, reduceIte, and_self, Bool.false_eq_true, this] <;> with_reducible rfl)))) | with_reducible apply cond_t | with_reducible apply cond_f))
  exact ⟨rfl, rfl⟩

theorem less85 {H : Heap} (a b : Nat) : Ahs.runT ap (n + 2) lim (.fn 85) [.int .u64 (a : Int), .int .u64 (b : Int)] H = some (.bool (decide (a < b)), H) := by
  refine run_eqn (F85_run (n := n + 1) a85 ?_)
  unfold F85
  have : decide ((a : Int) < (b : Int)) = decide (a < b) := by rw [decide_eq_decide]; omega
  (repeat (first | (with_reducible apply bindP_intro; (focus (first | with_reducible rfl | (simp only [walkR, get0, getS, Nat.zero_add, Nat.add_zero, Bool.not_true, Bool.not_false, decide_true, decide_false, reduceIte, and_self, Bool.false_eq_true, nan95 (n := n) a, this] <;> with_reducible rfl)))) | (with_reducible apply bind2_intro; (focus (first | with_reducible rfl | (simp only [walkR, get0, getS, Nat.zero_add, Nat.add_zero, Bool.not_true, Bool.not_false, decide_true, decide_false, reduceIte, and_self, Bool.false_eq_true, nan95 (n := n) a, this] <;> with_reducible rfl)))) | with_reducible apply cond_t | with_reducible apply cond_f))
  exact ⟨rfl, rfl⟩

theorem ins_inner {H0 : Heap} {v : AVal} (hl : lim ≤ H0.next) {K : AVal → Heap → Prop} {rec0 : AVal → AVal → AVal → AVal → Heap → Prop} {i : Nat} {t2 : AVal} {xs0 : List Nat} : ∀ (fuel j : Nat) (xs : List Nat) (H : Heap), j < fuel → j ≤ i → i < xs.length → xs.length < 1000 → Fresh H0 H 1 v (u64s xs) →
    xs.Perm xs0 → (∀ p q, p < q → q ≤ i → p ≠ j → q ≠ j → xs.getD p 0 ≤ xs.getD q 0) → (∀ q, j < q → q ≤ i → xs.getD j 0 ≤ xs.getD q 0) →
    (∀ ys H', ys.Perm xs0 → UpTo ys (i + 1) → Fresh H0 H' 1 v (u64s ys) → rec0 v (.int .i64 0) t2 (.int .i64 ((i + 1 : Nat) : Int)) H') →
    F79_l2 (Ahs.runT ap (n + 2)) lim (n + 2) K rec0 fuel v (.int .i64 0) t2 (.int .i64 (i : Int)) (.int .i64 (j : Int)) H
  | 0, j, xs, H, h1, h2, h3, h4, hv, hp, hs, hj, hK => by omega
  | fuel + 1, j, xs, H, h1, h2, h3, h4, hv, hp, hs, hj, hK => by
    show F79_s2 _ lim _ K rec0 (F79_l2 _ lim _ K rec0 fuel) v _ t2 _ _ H
    unfold F79_s2
    have hw : IntKind.i64.wrap ((i : Int) + 1) = ((i + 1 : Nat) : Int) := i64_succ (by omega)
    have done : ∀ (hup : UpTo xs (i + 1)), F79_j1 (Ahs.runT ap (n + 2)) lim (n + 2) K rec0 v (.int .i64 0) t2 (.int .i64 (i : Int)) H := by
      intro hup
      unfold F79_j1
      (repeat (first | (with_reducible apply bindP_intro; (focus (first | with_reducible rfl | (simp only [walkR, get0, getS, Nat.zero_add, Nat.add_zero, Bool.not_true, Bool.not_false, decide_true, decide_false, reduceIte, and_self, Bool.false_eq_true, hw] <;> with_reducible rfl)))) | (with_reducible apply bind2_intro; (focus (first | with_reducible rfl | (simp only [walkR, get0, getS, Nat.zero_add, Nat.add_zero, Bool.not_true, Bool.not_false, decide_true, decide_false, reduceIte, and_self, Bool.false_eq_true, hw] <;> with_reducible rfl)))) | with_reducible apply cond_t | with_reducible apply cond_f))
      exact hK xs H hp hup hv
    by_cases h0 : 0 < j
    · have hd : decide ((0 : Int) < (j : Int)) = true := dT (by omega)
      have hw1 : IntKind.i64.wrap ((j : Int) - 1) = ((j - 1 : Nat) : Int) := by rw [wrap_i64 (by omega) (by omega)]; omega
      have hjl : j < xs.length := by omega
      have hjl1 : j - 1 < xs.length := by omega
      have hsl := hv.sl
      have a1 := hsl.addr (k := .i64) (i := j) (by rw [u64s_len]; exact hjl)
      have a2 := hsl.addr (k := .i64) (i := j - 1) (by rw [u64s_len]; exact hjl1)
      have l1 := hsl.load1 (u64s_get hjl)
      have l2 := hsl.load1 (u64s_get hjl1)
      by_cases hlt : xs[j] < xs[j - 1]
      · have hd2 : decide (xs[j] < xs[j - 1]) = true := dT hlt
        obtain ⟨H1, s1, f1⟩ := hv.store (lim := lim) hl (u64s_get hjl) (f := 0) (by omega) (y := .int .u64 (xs[j - 1] : Int)) rfl rfl
        rw [List.set_cons_zero, u64s_set] at f1
        have hjl1' : j - 1 < (xs.set j xs[j - 1]).length := by rw [List.length_set]; exact hjl1
        obtain ⟨H2, s2, f2⟩ := f1.store (lim := lim) hl (u64s_get hjl1') (f := 0) (by omega) (y := .int .u64 (xs[j] : Int)) rfl rfl
        rw [List.set_cons_zero, u64s_set] at f2
        rw [Nat.add_zero] at s1 s2
        (repeat (first | (with_reducible apply bindP_intro; (focus (first | with_reducible rfl | (simp only [walkR, get0, getS, Nat.zero_add, Nat.add_zero, Bool.not_true, Bool.not_false, decide_true, decide_false, reduceIte, and_self, Bool.false_eq_true, hd, a1, l1, hw1, a2, l2, less85 (n := n) (xs[j]) (xs[j - 1]), hd2, s1, s2] <;> with_reducible rfl)))) | (with_reducible apply bind2_intro; (focus (first | with_reducible rfl | (simp only [walkR, get0, getS, Nat.zero_add, Nat.add_zero, Bool.not_true, Bool.not_false, decide_true, decide_false, reduceIte, and_self, Bool.false_eq_true, hd, a1, l1, hw1, a2, l2, less85 (n := n) (xs[j]) (xs[j - 1]), hd2, s1, s2] <;> with_reducible rfl)))) | with_reducible apply cond_t | with_reducible apply cond_f))
        refine ins_inner hl fuel (j - 1) _ H2 (by omega) (by omega) (by simp; omega) (by simp; omega) f2 ((List.set_set_perm hjl hjl1).trans hp) ?_ ?_ hK
        · intro p q hpq hq hpj hqj
          rw [getD_swap h0 hjl, getD_swap h0 hjl, if_neg hpj, if_neg hqj]
          have g1 := getD_get hjl1
          by_cases e1 : p = j
          · subst e1
            rw [if_pos rfl, if_neg (by omega), ← g1]
            exact hs (p - 1) q (by omega) hq (by omega) (by omega)
          · rw [if_neg e1]
            by_cases e2 : q = j
            · subst e2
              rw [if_pos rfl, ← g1]
              exact hs p (q - 1) (by omega) (by omega) e1 (by omega)
            · rw [if_neg e2]
              exact hs p q hpq hq e1 e2
        · intro q hq hqi
          rw [getD_swap h0 hjl, getD_swap h0 hjl, if_pos rfl, if_neg (by omega)]
          have g1 := getD_get hjl
          by_cases e2 : q = j
          · subst e2; rw [if_pos rfl]; omega
          · rw [if_neg e2, ← g1]
            exact hj q (by omega) hqi
      · have hd2 : decide (xs[j] < xs[j - 1]) = false := dF hlt
        (repeat (first | (with_reducible apply bindP_intro; (focus (first | with_reducible rfl | (simp only [walkR, get0, getS, Nat.zero_add, Nat.add_zero, Bool.not_true, Bool.not_false, decide_true, decide_false, reduceIte, and_self, Bool.false_eq_true, hd, a1, l1, hw1, a2, l2, less85 (n := n) (xs[j]) (xs[j - 1]), hd2] <;> with_reducible rfl)))) | (with_reducible apply bind2_intro; (focus (first | with_reducible rfl | (simp only [walkR, get0, getS, Nat.zero_add, Nat.add_zero, Bool.not_true, Bool.not_false, decide_true, decide_false, reduceIte, and_self, Bool.false_eq_true, hd, a1, l1, hw1, a2, l2, less85 (n := n) (xs[j]) (xs[j - 1]), hd2] <;> with_reducible rfl)))) | with_reducible apply cond_t | with_reducible apply cond_f))
        refine done ?_
        intro p q hpq hq
        have g1 := getD_get hjl
        have g2 := getD_get hjl1
        by_cases e1 : p = j
        · subst e1; exact hj q hpq (by omega)
        · by_cases e2 : q = j
          · subst e2
            have : xs.getD (q - 1) 0 ≤ xs.getD q 0 := by omega
            by_cases e3 : p = q - 1
            · subst e3; exact this
            · exact Nat.le_trans (hs p (q - 1) (by omega) (by omega) e1 (by omega)) this
          · exact hs p q hpq (by omega) e1 e2
    · have hd : decide ((0 : Int) < (j : Int)) = false := dF (by omega)
      (repeat (first | (with_reducible apply bindP_intro; (focus (first | with_reducible rfl | (simp only [walkR, get0, getS, Nat.zero_add, Nat.add_zero, Bool.not_true, Bool.not_false, decide_true, decide_false, reduceIte, and_self, Bool.false_eq_true, hd] <;> with_reducible rfl)))) | (with_reducible apply bind2_intro; (focus (first | with_reducible rfl | (simp only [walkR, get0, getS, Nat.zero_add, Nat.add_zero, Bool.not_true, Bool.not_false, decide_true, decide_false, reduceIte, and_self, Bool.false_eq_true, hd] <;> with_reducible rfl)))) | with_reducible apply cond_t | with_reducible apply cond_f))
      refine done ?_
      intro p q hpq hq
      have : j = 0 := by omega
      subst this
      by_cases e1 : p = 0
      · subst e1; exact hj q hpq (by omega)
      · exact hs p q hpq (by omega) e1 (by omega)

theorem ins_outer {H0 : Heap} {v : AVal} (hl : lim ≤ H0.next) {K : AVal → Heap → Prop} {xs0 : List Nat} (hn : xs0.length ≤ n) (hlen : xs0.length < 1000) (hK : ∀ ys H', ys.Perm xs0 → UpTo ys xs0.length → Fresh H0 H' 1 v (u64s ys) → K (.tup []) H') :
    ∀ (fuel i : Nat) (xs : List Nat) (H : Heap), xs0.length + 1 < fuel + i → 1 ≤ i → i ≤ xs0.length + 1 → Fresh H0 H 1 v (u64s xs) → xs.Perm xs0 → UpTo xs i →
    F79_l0 (Ahs.runT ap (n + 2)) lim (n + 2) K fuel v (.int .i64 0) (.int .i64 (xs0.length : Int)) (.int .i64 (i : Int)) H
  | 0, i, xs, H, h1, h2, h2', hv, hp, hs => by
    exfalso; omega
  | fuel + 1, i, xs, H, h1, h2, h2', hv, hp, hs => by
    show F79_s0 _ lim _ K (F79_l0 _ lim _ K fuel) v _ _ _ H
    unfold F79_s0
    by_cases hi : i < xs0.length
    · have hd : decide ((i : Int) < (xs0.length : Int)) = true := dT (by omega)
      (repeat (first | (with_reducible apply bindP_intro; (focus (first | with_reducible rfl | (simp only [walkR, get0, getS, Nat.zero_add, Nat.add_zero, Bool.not_true, Bool.not_false, decide_true, decide_false, reduceIte, and_self, Bool.false_eq_true, hd] <;> with_reducible rfl)))) | (with_reducible apply bind2_intro; (focus (first | with_reducible rfl | (simp only [walkR, get0, getS, Nat.zero_add, Nat.add_zero, Bool.not_true, Bool.not_false, decide_true, decide_false, reduceIte, and_self, Bool.false_eq_true, hd] <;> with_reducible rfl)))) | with_reducible apply cond_t | with_reducible apply cond_f))
      refine ins_inner hl _ i xs H (by omega) (Nat.le_refl _) (by rw [hp.length_eq]; exact hi) (by rw [hp.length_eq]; exact hlen) hv hp ?_ ?_ ?_
      · intro p q h3 h4 h5 h6
        exact hs p q h3 (by omega)
      · intro q h3 h4; omega
      · intro ys H' g1 g2 g3
        exact ins_outer hl hn hlen hK fuel (i + 1) ys H' (by omega) (by omega) (by omega) g3 g1 g2
    · have hd : decide ((i : Int) < (xs0.length : Int)) = false := dF (by omega)
      (repeat (first | (with_reducible apply bindP_intro; (focus (first | with_reducible rfl | (simp only [walkR, get0, getS, Nat.zero_add, Nat.add_zero, Bool.not_true, Bool.not_false, decide_true, decide_false, reduceIte, and_self, Bool.false_eq_true, hd] <;> with_reducible rfl)))) | (with_reducible apply bind2_intro; (focus (first | with_reducible rfl | (simp only [walkR, get0, getS, Nat.zero_add, Nat.add_zero, Bool.not_true, Bool.not_false, decide_true, decide_false, reduceIte, and_self, Bool.false_eq_true, hd] <;> with_reducible rfl)))) | with_reducible apply cond_t | with_reducible apply cond_f))
      exact hK xs H hp (fun p q h3 h4 => hs p q h3 (by omega)) hv

theorem ins79 {H0 H : Heap} {v : AVal} {xs : List Nat} (hv : Fresh H0 H 1 v (u64s xs)) (hl : lim ≤ H0.next) (hn : xs.length ≤ n) (hlen : xs.length < 1000) :
    ∃ r H', Ahs.runT ap (n + 3) lim (.fn 79) [v, .int .i64 0, .int .i64 (xs.length : Int)] H = some (r, H') ∧ r = .tup [] ∧ ∃ ys, ys.Perm xs ∧ UpTo ys xs.length ∧ Fresh H0 H' 1 v (u64s ys) := by
  refine F79_run (n := n + 2) a79 ?_
  unfold F79
  have hw : IntKind.i64.wrap ((0 : Int) + 1) = ((1 : Nat) : Int) := rfl
  (repeat (first | (with_reducible apply bindP_intro; (focus (first | with_reducible rfl | (simp only [walkR, get0, getS, Nat.zero_add, Nat.add_zero, Bool.not_true, Bool.not_false, decide_true, decide_false, reduceIte, and_self, Bool.false_eq_true, hw] <;> with_reducible rfl)))) | (with_reducible apply bind2_intro; (focus (first | with_reducible rfl | (simp only [walkR, get0, getS, Nat.zero_add, Nat.add_zero, Bool.not_true, Bool.not_false, decide_true, decide_false, reduceIte, and_self, Bool.false_eq_true, hw] <;> with_reducible rfl)))) | with_reducible apply cond_t | with_reducible apply cond_f))
  exact ins_outer hl hn hlen (fun ys H' h1 h2 h3 => ⟨rfl, ys, h1, h2, h3⟩) _ 1 xs H (by omega) (Nat.le_refl _) (by omega) hv (.refl _) (fun p q h1 h2 => by omega)

theorem len77 {H : Heap} {k : Nat} (h : k ≤ 12) : ∃ r, Ahs.runT ap (n + 5) lim (.fn 77) [.int .u64 (k : Int)] H = some (r, H) := by
  have : k = 0 ∨ k = 1 ∨ k = 2 ∨ k = 3 ∨ k = 4 ∨ k = 5 ∨ k = 6 ∨ k = 7 ∨ k = 8 ∨ k = 9 ∨ k = 10 ∨ k = 11 ∨ k = 12 := by omega
  rcases this with rfl | rfl | rfl | rfl | rfl | rfl | rfl | rfl | rfl | rfl | rfl | rfl | rfl
  · exact ⟨.int .i64 0, by kernel_rfl⟩
  · exact ⟨.int .i64 1, by kernel_rfl⟩
  · exact ⟨.int .i64 2, by kernel_rfl⟩
  · exact ⟨.int .i64 2, by kernel_rfl⟩
  · exact ⟨.int .i64 3, by kernel_rfl⟩
  · exact ⟨.int .i64 3, by kernel_rfl⟩
  · exact ⟨.int .i64 3, by kernel_rfl⟩
  · exact ⟨.int .i64 3, by kernel_rfl⟩
  · exact ⟨.int .i64 4, by kernel_rfl⟩
  · exact ⟨.int .i64 4, by kernel_rfl⟩
  · exact ⟨.int .i64 4, by kernel_rfl⟩
  · exact ⟨.int .i64 4, by kernel_rfl⟩
  · exact ⟨.int .i64 4, by kernel_rfl⟩

theorem pdq76 {H0 H : Heap} {v r : AVal} {xs : List Nat} (hv : Fresh H0 H 1 v (u64s xs)) (hl : lim ≤ H0.next) (hn : xs.length ≤ n) (hlen : xs.length ≤ 12) :
    ∃ r' H', Ahs.runT ap (n + 4) lim (.fn 76) [v, .int .i64 0, .int .i64 (xs.length : Int), r] H = some (r', H') ∧ r' = .tup [] ∧ ∃ ys, ys.Perm xs ∧ UpTo ys xs.length ∧ Fresh H0 H' 1 v (u64s ys) := by
  refine F76_run (n := n + 3) a76 ?_
  unfold F76
  show F76_s0 _ lim _ _ (F76_l0 _ lim _ _ (n + 2)) v _ _ _ _ _ H
  unfold F76_s0
  have hw : IntKind.i64.wrap ((xs.length : Int) - 0) = (xs.length : Int) := by rw [wrap_i64 (by omega) (by omega)]; omega
  have hd : decide ((xs.length : Int) ≤ 12) = true := dT (by omega)
  obtain ⟨r1, H1, e1, rfl, h1⟩ := ins79 (n := n) hv hl hn (by omega)
  (repeat (first | (with_reducible apply bindP_intro; (focus (first | with_reducible rfl | (simp only [walkR, get0, getS, Nat.zero_add, Nat.add_zero, Bool.not_true, Bool.not_false, decide_true, decide_false, reduceIte, and_self, Bool.false_eq_true, hw, hd, e1] <;> with_reducible rfl)))) | (with_reducible apply bind2_intro; (focus (first | with_reducible rfl | (simp only [walkR, get0, getS, Nat.zero_add, Nat.add_zero, Bool.not_true, Bool.not_false, decide_true, decide_false, reduceIte, and_self, Bool.false_eq_true, hw, hd, e1] <;> with_reducible rfl)))) | with_reducible apply cond_t | with_reducible apply cond_f))
  exact ⟨rfl, h1⟩

theorem sort70 {H0 H : Heap} {v : AVal} {xs : List Nat} (hv : Fresh H0 H 1 v (u64s xs)) (hl : lim ≤ H0.next) (hlen : xs.length ≤ 12) (hn : 12 ≤ n) :
    ∃ r' H', Ahs.runT ap (n + 6) lim (.fn 70) [v] H = some (r', H') ∧ r' = .tup [] ∧ ∃ ys, ys.Perm xs ∧ UpTo ys xs.length ∧ Fresh H0 H' 1 v (u64s ys) := by
  refine F70_run (n := n + 5) a70 ?_
  unfold F70
  have hlen' := hv.sl.len
  rw [u64s_len] at hlen'
  have hw : IntKind.u64.wrap (xs.length : Int) = (xs.length : Int) := wrap_id (by show (0 : Int) ≤ _; omega) (by show _ ≤ (18446744073709551615 : Int); omega)
  obtain ⟨r, e1⟩ := len77 (n := n) (lim := lim) (H := H) hlen
  obtain ⟨r1, H1, e2, rfl, h1⟩ := pdq76 (n := n + 1) (r := r) hv hl (by omega) hlen
  (repeat (first | (with_reducible apply bindP_intro; (focus (first | with_reducible rfl | (simp only [walkR, get0, getS, Nat.zero_add, Nat.add_zero, Bool.not_true, Bool.not_false, decide_true, decide_false, reduceIte, and_self, Bool.false_eq_true, hlen', hw, e1, e2] <;> with_reducible rfl)))) | (with_reducible apply bind2_intro; (focus (first | with_reducible rfl | (simp only [walkR, get0, getS, Nat.zero_add, Nat.add_zero, Bool.not_true, Bool.not_false, decide_true, decide_false, reduceIte, and_self, Bool.false_eq_true, hlen', hw, e1, e2] <;> with_reducible rfl)))) | with_reducible apply cond_t | with_reducible apply cond_f))
  exact ⟨rfl, h1⟩

end
end Go.Proofs.Ytpefhojmfcenfaa.conf
