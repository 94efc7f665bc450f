/- What the reference's functions come to. -/
import Derived.Test.YtpefhojmfcenfaaCgLevels
set_option maxRecDepth 100000
set_option linter.unusedVariables false
set_option linter.unusedSimpArgs false
namespace Go.Proofs.Ytpefhojmfcenfaa.conf
open Go.Ahs

section
variable {n lim : Nat}

/-! ## List -/

theorem has_bitat {m j : Nat} (h1 : 1 ≤ j) (h2 : j ≤ 5) (hm : m < 256) : hasN m j = (m / 2 ^ (j - 1) % 2 == 1) := by
  have hj : j = 1 ∨ j = 2 ∨ j = 3 ∨ j = 4 ∨ j = 5 := by omega
  rcases hj with rfl | rfl | rfl | rfl | rfl
  · exact beq_iff_eq.1 (allBelow_get (p := fun m => hasN m 1 == (m / 2 ^ (1 - 1) % 2 == 1)) (n := 256) (by kernel_rfl) m hm)
  · exact beq_iff_eq.1 (allBelow_get (p := fun m => hasN m 2 == (m / 2 ^ (2 - 1) % 2 == 1)) (n := 256) (by kernel_rfl) m hm)
  · exact beq_iff_eq.1 (allBelow_get (p := fun m => hasN m 3 == (m / 2 ^ (3 - 1) % 2 == 1)) (n := 256) (by kernel_rfl) m hm)
  · exact beq_iff_eq.1 (allBelow_get (p := fun m => hasN m 4 == (m / 2 ^ (4 - 1) % 2 == 1)) (n := 256) (by kernel_rfl) m hm)
  · exact beq_iff_eq.1 (allBelow_get (p := fun m => hasN m 5 == (m / 2 ^ (5 - 1) % 2 == 1)) (n := 256) (by kernel_rfl) m hm)

theorem rlist_loop {H0 : Heap} {m : Nat} (hm : m < 256) (hl : lim ≤ H0.next) {R : Caller} {N : Nat} {K : AVal → Heap → Prop} : ∀ (fuel j : Nat) (xs : List Nat) (v : AVal) (H : Heap), 7 ≤ fuel + j → 1 ≤ j → j ≤ 6 → xs.length < j → Fresh H0 H 1 v (u8s xs) →
    (∀ v' H', Fresh H0 H' 1 v' (u8s (xs ++ (List.range' j (6 - j)).filter (hasN m))) → K v' H') → F44_l0 R lim N K fuel (.int .u8 ((m / 2 ^ (j - 1) : Nat) : Int)) v (.int .u8 (j : Int)) H
  | 0, j, xs, v, H, h1, h2, h3, h4, hv, hK => by exfalso; omega
  | fuel + 1, j, xs, v, H, h1, h2, h3, h4, hv, hK => by
    show F44_s0 _ lim _ K (F44_l0 _ lim _ K fuel) _ v _ H
    unfold F44_s0
    by_cases hj : j ≤ 5
    · have hd : decide ((j : Int) ≤ 5) = true := dT (by omega)
      have hw : IntKind.u8.wrap ((j : Int) + 1) = ((j + 1 : Nat) : Int) := wrap_u8 (by omega) (by omega)
      have hr : List.range' j (6 - j) = j :: List.range' (j + 1) (6 - (j + 1)) := by
        rw [show 6 - j = (6 - (j + 1)) + 1 by omega, List.range'_succ]
      rw [hr, List.filter_cons] at hK
      have hle : m / 2 ^ (j - 1) ≤ m := Nat.div_le_self _ _
      have hrem : abin .rem (.int .u8 ((m / 2 ^ (j - 1) : Nat) : Int)) (.int .u8 2) = some (.int .u8 ((m / 2 ^ (j - 1) % 2 : Nat) : Int)) := by
        rw [abin_rem _ _ _ (by decide)]; rfl
      have hquo : abin .quo (.int .u8 ((m / 2 ^ (j - 1) : Nat) : Int)) (.int .u8 2) = some (.int .u8 ((m / 2 ^ (j + 1 - 1) : Nat) : Int)) := by
        rw [abin_quo _ _ _ (by decide)]
        have e : ((m / 2 ^ (j - 1) : Nat) : Int).tdiv 2 = ((m / 2 ^ (j - 1) / 2 : Nat) : Int) := rfl
        have e2 : m / 2 ^ (j - 1) / 2 = m / 2 ^ (j + 1 - 1) := by
          rw [Nat.div_div_eq_div_mul, show j + 1 - 1 = (j - 1) + 1 by omega, Nat.pow_succ]
        rw [e, e2]
        have : m / 2 ^ (j + 1 - 1) ≤ m := Nat.div_le_self _ _
        generalize m / 2 ^ (j + 1 - 1) = q at this
        rw [wrap_u8 (by omega) (by omega)]
      have hq : (((m / 2 ^ (j - 1) % 2 : Nat) : Int) == 1) = hasN m j := by
        rw [has_bitat h2 hj hm, Bool.eq_iff_iff, beq_iff_eq, beq_iff_eq]; omega
      cases hh : hasN m j with
      | true =>
        have hf : fillV [(.int .u8 0)] [(0, 1, .int .u8 (j : Int))] = some [.int .u8 (j : Int)] := rfl
        obtain ⟨v', H', e1, e2⟩ := hv.push1 (lim := lim) (bytes := 1) (zero := [.int .u8 0]) (x := [.int .u8 (j : Int)]) rfl (by omega) rfl rfl hl (by rw [u8s_len]; unfold room; omega) (by rw [u8s_len]; unfold room; omega)
        (repeat (first | (with_reducible apply bindP_intro; (focus (first | with_reducible rfl | (simp only [walkR, get0, getS, Nat.zero_add, Nat.add_zero, Bool.not_true, Bool.not_false, decide_true, decide_false, reduceIte, and_self, Bool.false_eq_true, hd, hrem, hq, hh, hf, e1] <;> with_reducible rfl)))) | (with_reducible apply bind2_intro; (focus (first | with_reducible rfl | (simp only [walkR, get0, getS, Nat.zero_add, Nat.add_zero, Bool.not_true, Bool.not_false, decide_true, decide_false, reduceIte, and_self, Bool.false_eq_true, hd, hrem, hq, hh, hf, e1] <;> with_reducible rfl)))) | with_reducible apply cond_t | with_reducible apply cond_f))
        unfold F44_j1
        (repeat (first | (with_reducible apply bindP_intro; (focus (first | with_reducible rfl | (simp only [walkR, get0, getS, Nat.zero_add, Nat.add_zero, Bool.not_true, Bool.not_false, decide_true, decide_false, reduceIte, and_self, Bool.false_eq_true, hw, hquo] <;> with_reducible rfl)))) | (with_reducible apply bind2_intro; (focus (first | with_reducible rfl | (simp only [walkR, get0, getS, Nat.zero_add, Nat.add_zero, Bool.not_true, Bool.not_false, decide_true, decide_false, reduceIte, and_self, Bool.false_eq_true, hw, hquo] <;> with_reducible rfl)))) | with_reducible apply cond_t | with_reducible apply cond_f))
        rw [u8s_app] at e2
        refine rlist_loop hm hl fuel (j + 1) (xs ++ [j]) v' H' (by omega) (by omega) (by omega) (by simp; omega) e2 ?_
        intro v2 H2 h
        rw [hh] at hK
        exact hK v2 H2 (by simpa using h)
      | false =>
        (repeat (first | (with_reducible apply bindP_intro; (focus (first | with_reducible rfl | (simp only [walkR, get0, getS, Nat.zero_add, Nat.add_zero, Bool.not_true, Bool.not_false, decide_true, decide_false, reduceIte, and_self, Bool.false_eq_true, hd, hrem, hq, hh] <;> with_reducible rfl)))) | (with_reducible apply bind2_intro; (focus (first | with_reducible rfl | (simp only [walkR, get0, getS, Nat.zero_add, Nat.add_zero, Bool.not_true, Bool.not_false, decide_true, decide_false, reduceIte, and_self, Bool.false_eq_true, hd, hrem, hq, hh] <;> with_reducible rfl)))) | with_reducible apply cond_t | with_reducible apply cond_f))
        unfold F44_j1
        (repeat (first | (with_reducible apply bindP_intro; (focus (first | with_reducible rfl | (simp only [walkR, get0, getS, Nat.zero_add, Nat.add_zero, Bool.not_true, Bool.not_false, decide_true, decide_false, reduceIte, and_self, Bool.false_eq_true, hw, hquo] <;> with_reducible rfl)))) | (with_reducible apply bind2_intro; (focus (first | with_reducible rfl | (simp only [walkR, get0, getS, Nat.zero_add, Nat.add_zero, Bool.not_true, Bool.not_false, decide_true, decide_false, reduceIte, and_self, Bool.false_eq_true, hw, hquo] <;> with_reducible rfl)))) | with_reducible apply cond_t | with_reducible apply cond_f))
        refine rlist_loop hm hl fuel (j + 1) xs v H (by omega) (by omega) (by omega) (by omega) hv ?_
        intro v2 H2 h
        rw [hh] at hK
        exact hK v2 H2 (by simpa using h)
    · have hd : decide ((j : Int) ≤ 5) = false := dF (by omega)
      (repeat (first | (with_reducible apply bindP_intro; (focus (first | with_reducible rfl | (simp only [walkR, get0, getS, Nat.zero_add, Nat.add_zero, Bool.not_true, Bool.not_false, decide_true, decide_false, reduceIte, and_self, Bool.false_eq_true, hd] <;> with_reducible rfl)))) | (with_reducible apply bind2_intro; (focus (first | with_reducible rfl | (simp only [walkR, get0, getS, Nat.zero_add, Nat.add_zero, Bool.not_true, Bool.not_false, decide_true, decide_false, reduceIte, and_self, Bool.false_eq_true, hd] <;> with_reducible rfl)))) | with_reducible apply cond_t | with_reducible apply cond_f))
      unfold F44_j0
      have : 6 - j = 0 := by omega
      rw [this] at hK
      exact hK v H (by simpa using hv)

theorem list44 {H : Heap} {m : Nat} (hm : m < 256) (hl : lim ≤ H.next) (hn : 6 ≤ n) : ∃ v H', Ahs.runT ap (n + 1) lim (.fn 44) [.int .u8 (m : Int)] H = some (v, H') ∧ Fresh H H' 1 v (u8s (listN m)) := by
  refine F44_run (n := n) a44 ?_
  unfold F44
  have := rlist_loop hm hl (R := Ahs.runT ap n) (N := n) (K := fun v H' => Fresh H H' 1 v (u8s (listN m))) n 1 [] _ H (by omega) (by omega) (by omega) (by simp) (Fresh.nil H 1) (fun v' H' h => h)
  simpa using this

/-! ## in, Of -/

theorem in_loop {R : Caller} {N : Nat} {K : AVal → Heap → Prop} {H : Heap} {v : AVal} {l : List Nat} {x : Nat} (hv : Sl H 1 v (u8s l)) (hlen : l.length < 1000) : ∀ (fuel i : Nat), l.length < fuel + i → i ≤ l.length → K (.bool ((l.drop i).any fun y => y == x)) H →
    F73_l0 R lim N K fuel v (.int .u8 (x : Int)) (.int .i64 (i : Int)) H
  | 0, i, h1, h2, hK => by exfalso; omega
  | fuel + 1, i, h1, h2, hK => by
    show F73_s0 _ lim _ K (F73_l0 _ lim _ K fuel) v _ _ H
    unfold F73_s0
    have hlen' := hv.len
    rw [u8s_len] at hlen'
    by_cases hi : i < l.length
    · have hd : decide ((i : Int) < (l.length : Int)) = true := dT (by omega)
      rw [List.drop_eq_getElem_cons hi, List.any_cons] at hK
      by_cases hx : l[i] = x
      · have hq : ((l[i] : Int) == (x : Int)) = true := by rw [hx]; simp
        (repeat (first | (with_reducible apply bindP_intro; (focus (first | with_reducible rfl | (simp only [walkR, get0, getS, Nat.zero_add, Nat.add_zero, Bool.not_true, Bool.not_false, decide_true, decide_false, reduceIte, and_self, Bool.false_eq_true, hlen', hd, hv.addr (k := .i64) (i := i) (by rw [u8s_len]; exact hi), hv.load1 (u8s_get hi), hq] <;> with_reducible rfl)))) | (with_reducible apply bind2_intro; (focus (first | with_reducible rfl | (simp only [walkR, get0, getS, Nat.zero_add, Nat.add_zero, Bool.not_true, Bool.not_false, decide_true, decide_false, reduceIte, and_self, Bool.false_eq_true, hlen', hd, hv.addr (k := .i64) (i := i) (by rw [u8s_len]; exact hi), hv.load1 (u8s_get hi), hq] <;> with_reducible rfl)))) | with_reducible apply cond_t | with_reducible apply cond_f))
        rw [show (l[i] == x) = true by rw [hx]; simp, Bool.true_or] at hK
        exact hK
      · have hq : ((l[i] : Int) == (x : Int)) = false := by rw [Bool.eq_false_iff]; simp; omega
        (repeat (first | (with_reducible apply bindP_intro; (focus (first | with_reducible rfl | (simp only [walkR, get0, getS, Nat.zero_add, Nat.add_zero, Bool.not_true, Bool.not_false, decide_true, decide_false, reduceIte, and_self, Bool.false_eq_true, hlen', hd, hv.addr (k := .i64) (i := i) (by rw [u8s_len]; exact hi), hv.load1 (u8s_get hi), hq, i64_succ (show i < 9223372036854775807 by omega)] <;> with_reducible rfl)))) | (with_reducible apply bind2_intro; (focus (first | with_reducible rfl | (simp only [walkR, get0, getS, Nat.zero_add, Nat.add_zero, Bool.not_true, Bool.not_false, decide_true, decide_false, reduceIte, and_self, Bool.false_eq_true, hlen', hd, hv.addr (k := .i64) (i := i) (by rw [u8s_len]; exact hi), hv.load1 (u8s_get hi), hq, i64_succ (show i < 9223372036854775807 by omega)] <;> with_reducible rfl)))) | with_reducible apply cond_t | with_reducible apply cond_f))
        rw [show (l[i] == x) = false by rw [Bool.eq_false_iff]; simpa using hx, Bool.false_or] at hK
        exact in_loop hv hlen fuel (i + 1) (by omega) (by omega) hK
    · have hd : decide ((i : Int) < (l.length : Int)) = false := dF (by omega)
      (repeat (first | (with_reducible apply bindP_intro; (focus (first | with_reducible rfl | (simp only [walkR, get0, getS, Nat.zero_add, Nat.add_zero, Bool.not_true, Bool.not_false, decide_true, decide_false, reduceIte, and_self, Bool.false_eq_true, hlen', hd] <;> with_reducible rfl)))) | (with_reducible apply bind2_intro; (focus (first | with_reducible rfl | (simp only [walkR, get0, getS, Nat.zero_add, Nat.add_zero, Bool.not_true, Bool.not_false, decide_true, decide_false, reduceIte, and_self, Bool.false_eq_true, hlen', hd] <;> with_reducible rfl)))) | with_reducible apply cond_t | with_reducible apply cond_f))
      unfold F73_j0
      rw [List.drop_eq_nil_of_le (by omega)] at hK
      exact hK

theorem in73 {H : Heap} {v : AVal} {l : List Nat} {x : Nat} (hv : Sl H 1 v (u8s l)) (hlen : l.length < 1000) (hn : l.length < n) : Ahs.runT ap (n + 1) lim (.fn 73) [v, .int .u8 (x : Int)] H = some (.bool (l.any fun y => y == x), H) := by
  refine run_eqn (F73_run (n := n) a73 ?_)
  unfold F73
  exact in_loop hv hlen _ 0 (by omega) (by omega) ⟨rfl, rfl⟩

def rofFrom (l : List Nat) (j a : Nat) : Nat := (List.range' j (6 - j)).foldl (fun a x => if (l.any fun y => y == x) = true then a + 2 ^ (x - 1) else a) a

theorem rof_loop {K : AVal → Heap → Prop} {H : Heap} {v : AVal} {l : List Nat} (hv : Sl H 1 v (u8s l)) (hlen : l.length < 1000) (hn : l.length < n) : ∀ (fuel j a : Nat), 7 ≤ fuel + j → 1 ≤ j → j ≤ 6 → a < 2 ^ (j - 1) →
    K (.int .u8 (rofFrom l j a : Nat)) H → F45_l0 (Ahs.runT ap (n + 1)) lim (n + 1) K fuel v (.int .u8 (a : Int)) (.int .u8 ((2 ^ (j - 1) : Nat) : Int)) (.int .u8 (j : Int)) H
  | 0, j, a, h1, h2, h3, h4, hK => by exfalso; omega
  | fuel + 1, j, a, h1, h2, h3, h4, hK => by
    show F45_s0 _ lim _ K (F45_l0 _ lim _ K fuel) v _ _ _ H
    unfold F45_s0
    by_cases hj : j ≤ 5
    · have hd : decide ((j : Int) ≤ 5) = true := dT (by omega)
      have hw : IntKind.u8.wrap ((j : Int) + 1) = ((j + 1 : Nat) : Int) := wrap_u8 (by omega) (by omega)
      have hp : 2 ^ (j - 1) ≤ 2 ^ 4 := Nat.pow_le_pow_right (by omega) (by omega)
      have hp2 : 2 ^ (j + 1 - 1) = 2 ^ (j - 1) * 2 := by rw [show j + 1 - 1 = (j - 1) + 1 by omega, Nat.pow_succ]
      have hm : IntKind.u8.wrap (((2 ^ (j - 1) : Nat) : Int) * 2) = ((2 ^ (j + 1 - 1) : Nat) : Int) := by rw [wrap_u8 (by omega) (by omega), hp2]; omega
      have hr : List.range' j (6 - j) = j :: List.range' (j + 1) (6 - (j + 1)) := by
        rw [show 6 - j = (6 - (j + 1)) + 1 by omega, List.range'_succ]
      unfold rofFrom at hK
      rw [hr, List.foldl_cons] at hK
      cases hh : l.any fun y => y == j with
      | true =>
        have ha : IntKind.u8.wrap ((a : Int) + ((2 ^ (j - 1) : Nat) : Int)) = ((a + 2 ^ (j - 1) : Nat) : Int) := by rw [wrap_u8 (by omega) (by omega)]; omega
        (repeat (first | (with_reducible apply bindP_intro; (focus (first | with_reducible rfl | (simp only [walkR, get0, getS, Nat.zero_add, Nat.add_zero, Bool.not_true, Bool.not_false, decide_true, decide_false, reduceIte, and_self, Bool.false_eq_true, hd, in73 (n := n) (x := j) hv hlen hn, hh, ha] <;> with_reducible rfl)))) | (with_reducible apply bind2_intro; (focus (first | with_reducible rfl | (simp only [walkR, get0, getS, Nat.zero_add, Nat.add_zero, Bool.not_true, Bool.not_false, decide_true, decide_false, reduceIte, and_self, Bool.false_eq_true, hd, in73 (n := n) (x := j) hv hlen hn, hh, ha] <;> with_reducible rfl)))) | with_reducible apply cond_t | with_reducible apply cond_f))
        unfold F45_j1
        (repeat (first | (with_reducible apply bindP_intro; (focus (first | with_reducible rfl | (simp only [walkR, get0, getS, Nat.zero_add, Nat.add_zero, Bool.not_true, Bool.not_false, decide_true, decide_false, reduceIte, and_self, Bool.false_eq_true, hm, hw] <;> with_reducible rfl)))) | (with_reducible apply bind2_intro; (focus (first | with_reducible rfl | (simp only [walkR, get0, getS, Nat.zero_add, Nat.add_zero, Bool.not_true, Bool.not_false, decide_true, decide_false, reduceIte, and_self, Bool.false_eq_true, hm, hw] <;> with_reducible rfl)))) | with_reducible apply cond_t | with_reducible apply cond_f))
        rw [hh, if_pos rfl] at hK
        exact rof_loop hv hlen hn fuel (j + 1) _ (by omega) (by omega) (by omega) (by rw [hp2]; omega) hK
      | false =>
        (repeat (first | (with_reducible apply bindP_intro; (focus (first | with_reducible rfl | (simp only [walkR, get0, getS, Nat.zero_add, Nat.add_zero, Bool.not_true, Bool.not_false, decide_true, decide_false, reduceIte, and_self, Bool.false_eq_true, hd, in73 (n := n) (x := j) hv hlen hn, hh] <;> with_reducible rfl)))) | (with_reducible apply bind2_intro; (focus (first | with_reducible rfl | (simp only [walkR, get0, getS, Nat.zero_add, Nat.add_zero, Bool.not_true, Bool.not_false, decide_true, decide_false, reduceIte, and_self, Bool.false_eq_true, hd, in73 (n := n) (x := j) hv hlen hn, hh] <;> with_reducible rfl)))) | with_reducible apply cond_t | with_reducible apply cond_f))
        unfold F45_j1
        (repeat (first | (with_reducible apply bindP_intro; (focus (first | with_reducible rfl | (simp only [walkR, get0, getS, Nat.zero_add, Nat.add_zero, Bool.not_true, Bool.not_false, decide_true, decide_false, reduceIte, and_self, Bool.false_eq_true, hm, hw] <;> with_reducible rfl)))) | (with_reducible apply bind2_intro; (focus (first | with_reducible rfl | (simp only [walkR, get0, getS, Nat.zero_add, Nat.add_zero, Bool.not_true, Bool.not_false, decide_true, decide_false, reduceIte, and_self, Bool.false_eq_true, hm, hw] <;> with_reducible rfl)))) | with_reducible apply cond_t | with_reducible apply cond_f))
        rw [hh, if_neg (by simp)] at hK
        exact rof_loop hv hlen hn fuel (j + 1) _ (by omega) (by omega) (by omega) (by rw [hp2]; omega) hK
    · have hd : decide ((j : Int) ≤ 5) = false := dF (by omega)
      (repeat (first | (with_reducible apply bindP_intro; (focus (first | with_reducible rfl | (simp only [walkR, get0, getS, Nat.zero_add, Nat.add_zero, Bool.not_true, Bool.not_false, decide_true, decide_false, reduceIte, and_self, Bool.false_eq_true, hd] <;> with_reducible rfl)))) | (with_reducible apply bind2_intro; (focus (first | with_reducible rfl | (simp only [walkR, get0, getS, Nat.zero_add, Nat.add_zero, Bool.not_true, Bool.not_false, decide_true, decide_false, reduceIte, and_self, Bool.false_eq_true, hd] <;> with_reducible rfl)))) | with_reducible apply cond_t | with_reducible apply cond_f))
      unfold F45_j0
      unfold rofFrom at hK
      rw [show 6 - j = 0 by omega] at hK
      exact hK

def mask5 (b1 b2 b3 b4 b5 : Bool) : Nat := (if b1 then 1 else 0) ||| (if b2 then 2 else 0) ||| (if b3 then 4 else 0) ||| (if b4 then 8 else 0) ||| (if b5 then 16 else 0)
theorem mask5_or (x : Nat) (b1 b2 b3 b4 b5 : Bool) : bitN x ||| mask5 b1 b2 b3 b4 b5 = mask5 (x == 1 || b1) (x == 2 || b2) (x == 3 || b3) (x == 4 || b4) (x == 5 || b5) := by
  by_cases hx : 1 ≤ x ∧ x ≤ 5
  · have hx5 : x = 1 ∨ x = 2 ∨ x = 3 ∨ x = 4 ∨ x = 5 := by omega
    rcases hx5 with rfl | rfl | rfl | rfl | rfl <;> cases b1 <;> cases b2 <;> cases b3 <;> cases b4 <;> cases b5 <;> rfl
  · have hb : bitN x = 0 := by unfold bitN; rw [if_neg hx]
    have e : ∀ k, 1 ≤ k → k ≤ 5 → (x == k) = false := by intro k h1 h2; rw [Bool.eq_false_iff]; simp; omega
    rw [hb, e 1 (by omega) (by omega), e 2 (by omega) (by omega), e 3 (by omega) (by omega), e 4 (by omega) (by omega), e 5 (by omega) (by omega)]
    simp only [Bool.false_or, Nat.zero_or]
theorem maskFrom5 (p : Nat → Bool) : maskFrom p 1 0 = mask5 (p 1) (p 2) (p 3) (p 4) (p 5) := by
  have hr : List.range' 1 (6 - 1) = [1, 2, 3, 4, 5] := rfl
  unfold maskFrom
  rw [hr]
  simp only [List.foldl_cons, List.foldl_nil]
  generalize p 1 = b1
  generalize p 2 = b2
  generalize p 3 = b3
  generalize p 4 = b4
  generalize p 5 = b5
  cases b1 <;> cases b2 <;> cases b3 <;> cases b4 <;> cases b5 <;> rfl

theorem any_mask (l : List Nat) : ofN l = maskFrom (fun x => l.any fun y => y == x) 1 0 := by
  have key : ∀ (l : List Nat) (a : Nat), l.foldl (fun a x => a ||| bitN x) a = a ||| maskFrom (fun x => l.any fun y => y == x) 1 0 := by
    intro l
    induction l with
    | nil => intro a; rw [maskFrom5]; simp [mask5]
    | cons x xs ih =>
      intro a
      rw [List.foldl_cons, ih, Nat.or_assoc, maskFrom5, maskFrom5, mask5_or]
      simp only [List.any_cons]
  unfold ofN
  rw [key, Nat.zero_or]

theorem rof_mask (l : List Nat) : rofFrom l 1 0 = ofN l := by
  rw [any_mask, maskFrom5]
  have hr : List.range' 1 (6 - 1) = [1, 2, 3, 4, 5] := rfl
  unfold rofFrom
  rw [hr]
  simp only [List.foldl_cons, List.foldl_nil]
  generalize (l.any fun y => y == 1) = b1
  generalize (l.any fun y => y == 2) = b2
  generalize (l.any fun y => y == 3) = b3
  generalize (l.any fun y => y == 4) = b4
  generalize (l.any fun y => y == 5) = b5
  cases b1 <;> cases b2 <;> cases b3 <;> cases b4 <;> cases b5 <;> rfl

theorem rof45 {H : Heap} {v : AVal} {l : List Nat} (hv : Sl H 1 v (u8s l)) (hlen : l.length < 1000) (hn : l.length < n) (hn6 : 6 ≤ n) : Ahs.runT ap (n + 2) lim (.fn 45) [v] H = some (.int .u8 (ofN l : Nat), H) := by
  refine run_eqn (F45_run (n := n + 1) a45 ?_)
  unfold F45
  have := rof_loop (lim := lim) (K := fun r H' => r = .int .u8 (ofN l : Nat) ∧ H' = H) hv hlen hn (n + 1) 1 0 (by omega) (by omega) (by omega) (by simp) ⟨by rw [rof_mask], rfl⟩
  simpa using this

/-! ## Has, Won, Near -/

theorem list_any {m x : Nat} : (listN m).any (fun y => y == x) = hasN m x := by
  rw [Bool.eq_iff_iff, List.any_eq_true]
  constructor
  · rintro ⟨y, hy, he⟩
    rw [beq_iff_eq] at he
    subst he
    exact (List.mem_filter.1 hy).2
  · intro h
    refine ⟨x, List.mem_filter.2 ⟨?_, h⟩, by simp⟩
    rw [List.mem_range'_1]
    by_cases hx : 1 ≤ x ∧ x ≤ 5
    · omega
    · unfold hasN bitN at h
      rw [if_neg hx] at h
      simp at h

theorem rhas46 {H : Heap} {m x : Nat} (hm : m < 256) (hl : lim ≤ H.next) (hn : 6 ≤ n) : ∃ r H', Ahs.runT ap (n + 2) lim (.fn 46) [.int .u8 (m : Int), .int .u8 (x : Int)] H = some (r, H') ∧ r = .bool (hasN m x) ∧ Keeps2 H H' := by
  refine F46_run (n := n + 1) a46 ?_
  unfold F46
  obtain ⟨v, H1, e1, f1⟩ := list44 (n := n) (H := H) (lim := lim) hm hl hn
  have h2 := in73 (n := n) (lim := lim) (x := x) f1.sl (by have := list_len m; omega) (by have := list_len m; omega)
  (repeat (first | (with_reducible apply bindP_intro; (focus (first | with_reducible rfl | (simp only [walkR, get0, getS, Nat.zero_add, Nat.add_zero, Bool.not_true, Bool.not_false, decide_true, decide_false, reduceIte, and_self, Bool.false_eq_true, e1, h2] <;> with_reducible rfl)))) | (with_reducible apply bind2_intro; (focus (first | with_reducible rfl | (simp only [walkR, get0, getS, Nat.zero_add, Nat.add_zero, Bool.not_true, Bool.not_false, decide_true, decide_false, reduceIte, and_self, Bool.false_eq_true, e1, h2] <;> with_reducible rfl)))) | with_reducible apply cond_t | with_reducible apply cond_f))
  exact ⟨by rw [list_any], f1.keeps⟩

theorem rwon_loop {H0 : Heap} {w : Nat} {l : List Nat} {vl : AVal} (hw : w < 256) (hvl : Sl H0 1 vl (u8s l)) (hlt : ∀ x ∈ l, x < 256) (hlen : l.length < 1000) (hl : lim ≤ H0.next) (hn : 6 ≤ n) {K : AVal → Heap → Prop}
    (hK : ∀ H', Keeps2 H0 H' → K (.bool (decide (l.length < 2 * l.countP (hasN w)))) H') : ∀ (fuel i c : Nat) (H : Heap), l.length < fuel + i → i ≤ l.length → Keeps2 H0 H → c = (l.take i).countP (hasN w) →
    F51_l0 (Ahs.runT ap (n + 2)) lim (n + 2) K fuel (.int .u8 (w : Int)) vl (.int .i64 (c : Int)) (.int .i64 (i : Int)) H
  | 0, i, c, H, h1, h2, hk, hc => by exfalso; omega
  | fuel + 1, i, c, H, h1, h2, hk, hc => by
    show F51_s0 _ lim _ K (F51_l0 _ lim _ K fuel) _ _ _ _ H
    unfold F51_s0
    have hsl := hvl.keep hk
    have hlen' := hsl.len
    rw [u8s_len] at hlen'
    have hcl : c ≤ i := by
      rw [hc]
      have := List.countP_le_length (p := hasN w) (l := l.take i)
      rw [List.length_take] at this; omega
    by_cases hi : i < l.length
    · have hd : decide ((i : Int) < (l.length : Int)) = true := dT (by omega)
      obtain ⟨_, H1, e1, rfl, k1⟩ := rhas46 (n := n) (lim := lim) (H := H) (x := l[i]) hw (Nat.le_trans hl hk.next) hn
      have hcs : (l.take (i + 1)).countP (hasN w) = c + if hasN w l[i] = true then 1 else 0 := by
        rw [List.take_succ_eq_append_getElem hi, List.countP_append, ← hc]; simp [List.countP_cons]
      cases hh : hasN w l[i] with
      | true =>
        rw [hh] at e1 hcs
        (repeat (first | (with_reducible apply bindP_intro; (focus (first | with_reducible rfl | (simp only [walkR, get0, getS, Nat.zero_add, Nat.add_zero, Bool.not_true, Bool.not_false, decide_true, decide_false, reduceIte, and_self, Bool.false_eq_true, hlen', hd, hsl.addr (k := .i64) (i := i) (by rw [u8s_len]; exact hi), hsl.load1 (u8s_get hi), e1, i64_succ (show c < 9223372036854775807 by omega)] <;> with_reducible rfl)))) | (with_reducible apply bind2_intro; (focus (first | with_reducible rfl | (simp only [walkR, get0, getS, Nat.zero_add, Nat.add_zero, Bool.not_true, Bool.not_false, decide_true, decide_false, reduceIte, and_self, Bool.false_eq_true, hlen', hd, hsl.addr (k := .i64) (i := i) (by rw [u8s_len]; exact hi), hsl.load1 (u8s_get hi), e1, i64_succ (show c < 9223372036854775807 by omega)] <;> with_reducible rfl)))) | with_reducible apply cond_t | with_reducible apply cond_f))
        unfold F51_j1
        (repeat (first | (with_reducible apply bindP_intro; (focus (first | with_reducible rfl | (simp only [walkR, get0, getS, Nat.zero_add, Nat.add_zero, Bool.not_true, Bool.not_false, decide_true, decide_false, reduceIte, and_self, Bool.false_eq_true, i64_succ (show i < 9223372036854775807 by omega)] <;> with_reducible rfl)))) | (with_reducible apply bind2_intro; (focus (first | with_reducible rfl | (simp only [walkR, get0, getS, Nat.zero_add, Nat.add_zero, Bool.not_true, Bool.not_false, decide_true, decide_false, reduceIte, and_self, Bool.false_eq_true, i64_succ (show i < 9223372036854775807 by omega)] <;> with_reducible rfl)))) | with_reducible apply cond_t | with_reducible apply cond_f))
        exact rwon_loop hw hvl hlt hlen hl hn hK fuel (i + 1) (c + 1) H1 (by omega) (by omega) (hk.trans k1) (by rw [hcs]; rfl)
      | false =>
        rw [hh] at e1 hcs
        (repeat (first | (with_reducible apply bindP_intro; (focus (first | with_reducible rfl | (simp only [walkR, get0, getS, Nat.zero_add, Nat.add_zero, Bool.not_true, Bool.not_false, decide_true, decide_false, reduceIte, and_self, Bool.false_eq_true, hlen', hd, hsl.addr (k := .i64) (i := i) (by rw [u8s_len]; exact hi), hsl.load1 (u8s_get hi), e1] <;> with_reducible rfl)))) | (with_reducible apply bind2_intro; (focus (first | with_reducible rfl | (simp only [walkR, get0, getS, Nat.zero_add, Nat.add_zero, Bool.not_true, Bool.not_false, decide_true, decide_false, reduceIte, and_self, Bool.false_eq_true, hlen', hd, hsl.addr (k := .i64) (i := i) (by rw [u8s_len]; exact hi), hsl.load1 (u8s_get hi), e1] <;> with_reducible rfl)))) | with_reducible apply cond_t | with_reducible apply cond_f))
        unfold F51_j1
        (repeat (first | (with_reducible apply bindP_intro; (focus (first | with_reducible rfl | (simp only [walkR, get0, getS, Nat.zero_add, Nat.add_zero, Bool.not_true, Bool.not_false, decide_true, decide_false, reduceIte, and_self, Bool.false_eq_true, i64_succ (show i < 9223372036854775807 by omega)] <;> with_reducible rfl)))) | (with_reducible apply bind2_intro; (focus (first | with_reducible rfl | (simp only [walkR, get0, getS, Nat.zero_add, Nat.add_zero, Bool.not_true, Bool.not_false, decide_true, decide_false, reduceIte, and_self, Bool.false_eq_true, i64_succ (show i < 9223372036854775807 by omega)] <;> with_reducible rfl)))) | with_reducible apply cond_t | with_reducible apply cond_f))
        exact rwon_loop hw hvl hlt hlen hl hn hK fuel (i + 1) c H1 (by omega) (by omega) (hk.trans k1) (by rw [hcs]; rfl)
    · have hd : decide ((i : Int) < (l.length : Int)) = false := dF (by omega)
      (repeat (first | (with_reducible apply bindP_intro; (focus (first | with_reducible rfl | (simp only [walkR, get0, getS, Nat.zero_add, Nat.add_zero, Bool.not_true, Bool.not_false, decide_true, decide_false, reduceIte, and_self, Bool.false_eq_true, hlen', hd] <;> with_reducible rfl)))) | (with_reducible apply bind2_intro; (focus (first | with_reducible rfl | (simp only [walkR, get0, getS, Nat.zero_add, Nat.add_zero, Bool.not_true, Bool.not_false, decide_true, decide_false, reduceIte, and_self, Bool.false_eq_true, hlen', hd] <;> with_reducible rfl)))) | with_reducible apply cond_t | with_reducible apply cond_f))
      unfold F51_j0
      rw [List.take_of_length_le (by omega)] at hc
      have hcle : c ≤ l.length := by rw [hc]; exact List.countP_le_length
      have hw1 : IntKind.i64.wrap ((l.length : Int) - (c : Int)) = ((l.length - c : Nat) : Int) := by rw [wrap_i64 (by omega) (by omega)]; omega
      have hq : decide (((l.length - c : Nat) : Int) < (c : Int)) = decide (l.length < 2 * c) := by rw [decide_eq_decide]; omega
      (repeat (first | (with_reducible apply bindP_intro; (focus (first | with_reducible rfl | (simp only [walkR, get0, getS, Nat.zero_add, Nat.add_zero, Bool.not_true, Bool.not_false, decide_true, decide_false, reduceIte, and_self, Bool.false_eq_true, hlen', hw1, hq] <;> with_reducible rfl)))) | (with_reducible apply bind2_intro; (focus (first | with_reducible rfl | (simp only [walkR, get0, getS, Nat.zero_add, Nat.add_zero, Bool.not_true, Bool.not_false, decide_true, decide_false, reduceIte, and_self, Bool.false_eq_true, hlen', hw1, hq] <;> with_reducible rfl)))) | with_reducible apply cond_t | with_reducible apply cond_f))
      rw [hc]
      exact hK H hk

theorem rwon51 {H : Heap} {m w : Nat} (hm : m < 256) (hw : w < 256) (hl : lim ≤ H.next) (hn : 6 ≤ n) : ∃ r H', Ahs.runT ap (n + 3) lim (.fn 51) [.int .u8 (m : Int), .int .u8 (w : Int)] H = some (r, H') ∧ r = .bool (wonN m w) ∧ Keeps2 H H' := by
  refine F51_run (n := n + 2) a51 ?_
  unfold F51
  obtain ⟨v, H1, e1, f1⟩ := list44 (n := n + 1) (H := H) (lim := lim) hm hl (by omega)
  (repeat (first | (with_reducible apply bindP_intro; (focus (first | with_reducible rfl | (simp only [walkR, get0, getS, Nat.zero_add, Nat.add_zero, Bool.not_true, Bool.not_false, decide_true, decide_false, reduceIte, and_self, Bool.false_eq_true, e1] <;> with_reducible rfl)))) | (with_reducible apply bind2_intro; (focus (first | with_reducible rfl | (simp only [walkR, get0, getS, Nat.zero_add, Nat.add_zero, Bool.not_true, Bool.not_false, decide_true, decide_false, reduceIte, and_self, Bool.false_eq_true, e1] <;> with_reducible rfl)))) | with_reducible apply cond_t | with_reducible apply cond_f))
  refine rwon_loop hw f1.sl (list_lt m) (by have := list_len m; omega) (Nat.le_trans hl f1.keeps.next) hn ?_ _ 0 0 H1 (by have := list_len m; omega) (by omega) (.refl _) rfl
  intro H' k
  exact ⟨by rw [won_count], f1.keeps.trans k⟩

def diffN (a b j : Nat) : Bool := !(hasN a j == hasN b j)

theorem rnear_loop {H0 : Heap} {a b : Nat} (ha : a < 256) (hb : b < 256) (hl : lim ≤ H0.next) (hn : 6 ≤ n) {K : AVal → Heap → Prop} : ∀ (fuel j c : Nat) (H : Heap), 7 ≤ fuel + j → 1 ≤ j → j ≤ 6 → c < j → Keeps2 H0 H →
    (∀ H', Keeps2 H0 H' → K (.bool (decide (c + (List.range' j (6 - j)).countP (diffN a b) < 2))) H') →
    F53_l0 (Ahs.runT ap (n + 2)) lim (n + 2) K fuel (.int .u8 (a : Int)) (.int .u8 (b : Int)) (.int .i64 (c : Int)) (.int .u8 (j : Int)) H
  | 0, j, c, H, h1, h2, h3, h4, hk, hK => by exfalso; omega
  | fuel + 1, j, c, H, h1, h2, h3, h4, hk, hK => by
    show F53_s0 _ lim _ K (F53_l0 _ lim _ K fuel) _ _ _ _ H
    unfold F53_s0
    by_cases hj : j ≤ 5
    · have hd : decide ((j : Int) ≤ 5) = true := dT (by omega)
      have hw : IntKind.u8.wrap ((j : Int) + 1) = ((j + 1 : Nat) : Int) := wrap_u8 (by omega) (by omega)
      have hr : List.range' j (6 - j) = j :: List.range' (j + 1) (6 - (j + 1)) := by
        rw [show 6 - j = (6 - (j + 1)) + 1 by omega, List.range'_succ]
      rw [hr, List.countP_cons] at hK
      obtain ⟨_, H1, e1, rfl, k1⟩ := rhas46 (n := n) (lim := lim) (H := H) (x := j) ha (Nat.le_trans hl hk.next) hn
      obtain ⟨_, H2, e2, rfl, k2⟩ := rhas46 (n := n) (lim := lim) (H := H1) (x := j) hb (Nat.le_trans hl (hk.trans k1).next) hn
      have hq : eqvO true .bool (.bool (hasN a j)) (.bool (hasN b j)) = some (.bool (diffN a b j)) := rfl
      cases hh : diffN a b j with
      | true =>
        (repeat (first | (with_reducible apply bindP_intro; (focus (first | with_reducible rfl | (simp only [walkR, get0, getS, Nat.zero_add, Nat.add_zero, Bool.not_true, Bool.not_false, decide_true, decide_false, reduceIte, and_self, Bool.false_eq_true, hd, e1, e2, hq, hh, i64_succ (show c < 9223372036854775807 by omega)] <;> with_reducible rfl)))) | (with_reducible apply bind2_intro; (focus (first | with_reducible rfl | (simp only [walkR, get0, getS, Nat.zero_add, Nat.add_zero, Bool.not_true, Bool.not_false, decide_true, decide_false, reduceIte, and_self, Bool.false_eq_true, hd, e1, e2, hq, hh, i64_succ (show c < 9223372036854775807 by omega)] <;> with_reducible rfl)))) | with_reducible apply cond_t | with_reducible apply cond_f))
        unfold F53_j1
        (repeat (first | (with_reducible apply bindP_intro; (focus (first | with_reducible rfl | (simp only [walkR, get0, getS, Nat.zero_add, Nat.add_zero, Bool.not_true, Bool.not_false, decide_true, decide_false, reduceIte, and_self, Bool.false_eq_true, hw] <;> with_reducible rfl)))) | (with_reducible apply bind2_intro; (focus (first | with_reducible rfl | (simp only [walkR, get0, getS, Nat.zero_add, Nat.add_zero, Bool.not_true, Bool.not_false, decide_true, decide_false, reduceIte, and_self, Bool.false_eq_true, hw] <;> with_reducible rfl)))) | with_reducible apply cond_t | with_reducible apply cond_f))
        refine rnear_loop ha hb hl hn fuel (j + 1) (c + 1) H2 (by omega) (by omega) (by omega) (by omega) ((hk.trans k1).trans k2) ?_
        intro H' hk'
        have := hK H' hk'
        rw [hh, if_pos rfl] at this
        rw [show c + 1 + (List.range' (j + 1) (6 - (j + 1))).countP (diffN a b) = c + ((List.range' (j + 1) (6 - (j + 1))).countP (diffN a b) + 1) by omega]
        exact this
      | false =>
        (repeat (first | (with_reducible apply bindP_intro; (focus (first | with_reducible rfl | (simp only [walkR, get0, getS, Nat.zero_add, Nat.add_zero, Bool.not_true, Bool.not_false, decide_true, decide_false, reduceIte, and_self, Bool.false_eq_true, hd, e1, e2, hq, hh] <;> with_reducible rfl)))) | (with_reducible apply bind2_intro; (focus (first | with_reducible rfl | (simp only [walkR, get0, getS, Nat.zero_add, Nat.add_zero, Bool.not_true, Bool.not_false, decide_true, decide_false, reduceIte, and_self, Bool.false_eq_true, hd, e1, e2, hq, hh] <;> with_reducible rfl)))) | with_reducible apply cond_t | with_reducible apply cond_f))
        unfold F53_j1
        (repeat (first | (with_reducible apply bindP_intro; (focus (first | with_reducible rfl | (simp only [walkR, get0, getS, Nat.zero_add, Nat.add_zero, Bool.not_true, Bool.not_false, decide_true, decide_false, reduceIte, and_self, Bool.false_eq_true, hw] <;> with_reducible rfl)))) | (with_reducible apply bind2_intro; (focus (first | with_reducible rfl | (simp only [walkR, get0, getS, Nat.zero_add, Nat.add_zero, Bool.not_true, Bool.not_false, decide_true, decide_false, reduceIte, and_self, Bool.false_eq_true, hw] <;> with_reducible rfl)))) | with_reducible apply cond_t | with_reducible apply cond_f))
        refine rnear_loop ha hb hl hn fuel (j + 1) c H2 (by omega) (by omega) (by omega) (by omega) ((hk.trans k1).trans k2) ?_
        intro H' hk'
        have := hK H' hk'
        rw [hh, if_neg (by simp)] at this
        exact this
    · have hd : decide ((j : Int) ≤ 5) = false := dF (by omega)
      (repeat (first | (with_reducible apply bindP_intro; (focus (first | with_reducible rfl | (simp only [walkR, get0, getS, Nat.zero_add, Nat.add_zero, Bool.not_true, Bool.not_false, decide_true, decide_false, reduceIte, and_self, Bool.false_eq_true, hd] <;> with_reducible rfl)))) | (with_reducible apply bind2_intro; (focus (first | with_reducible rfl | (simp only [walkR, get0, getS, Nat.zero_add, Nat.add_zero, Bool.not_true, Bool.not_false, decide_true, decide_false, reduceIte, and_self, Bool.false_eq_true, hd] <;> with_reducible rfl)))) | with_reducible apply cond_t | with_reducible apply cond_f))
      unfold F53_j0
      have e : 6 - j = 0 := by omega
      rw [e] at hK
      have hq : decide ((c : Int) < 2) = decide (c < 2) := by rw [decide_eq_decide]; omega
      (repeat (first | (with_reducible apply bindP_intro; (focus (first | with_reducible rfl | (simp only [walkR, get0, getS, Nat.zero_add, Nat.add_zero, Bool.not_true, Bool.not_false, decide_true, decide_false, reduceIte, and_self, Bool.false_eq_true, hq] <;> with_reducible rfl)))) | (with_reducible apply bind2_intro; (focus (first | with_reducible rfl | (simp only [walkR, get0, getS, Nat.zero_add, Nat.add_zero, Bool.not_true, Bool.not_false, decide_true, decide_false, reduceIte, and_self, Bool.false_eq_true, hq] <;> with_reducible rfl)))) | with_reducible apply cond_t | with_reducible apply cond_f))
      exact hK H hk

theorem has31 (a x : Nat) : hasN a x = hasN (a &&& 31) x := by
  unfold hasN
  have : 31 &&& bitN x = bitN x := by
    obtain ⟨y, hy, hb⟩ := bit_small x
    rw [hb]
    have := allBelow_get (p := fun y => (31 &&& bitN y) == bitN y) (n := 7) (by kernel_rfl) y hy
    simpa using this
  rw [Nat.and_assoc, this]

theorem near_count (a b : Nat) : nearN a b = decide ((List.range' 1 5).countP (diffN a b) < 2) := by
  have c := allBelow_get (allBelow_get (p := fun a => allBelow (fun b => nearN a b == decide ((List.range' 1 5).countP (diffN a b) < 2)) 32) (n := 32) (by kernel_rfl) _ (lt32 a)) _ (lt32 b)
  have e1 : nearN a b = nearN (a &&& 31) (b &&& 31) := by
    unfold nearN
    have : (a ^^^ b) &&& 31 = ((a &&& 31) ^^^ (b &&& 31)) &&& 31 := by
      rw [← Nat.and_xor_distrib_right, Nat.and_assoc]; rfl
    rw [this]
  have e2 : diffN a b = diffN (a &&& 31) (b &&& 31) := by
    funext x
    unfold diffN
    rw [has31 a, has31 b]
  rw [e1, e2]
  exact beq_iff_eq.1 c

theorem rnear53 {H : Heap} {a b : Nat} (ha : a < 256) (hb : b < 256) (hl : lim ≤ H.next) (hn : 6 ≤ n) : ∃ r H', Ahs.runT ap (n + 3) lim (.fn 53) [.int .u8 (a : Int), .int .u8 (b : Int)] H = some (r, H') ∧ r = .bool (nearN a b) ∧ Keeps2 H H' := by
  refine F53_run (n := n + 2) a53 ?_
  unfold F53
  refine rnear_loop ha hb hl hn _ 1 0 H (by omega) (by omega) (by omega) (by omega) (.refl _) ?_
  intro H' k
  refine ⟨?_, k⟩
  rw [near_count, Nat.zero_add]

end
end Go.Proofs.Ytpefhojmfcenfaa.conf
