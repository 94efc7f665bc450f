/- ConfTells. -/
import Derived.Test.YtpefhojmfcenfaaCgRef
set_option maxRecDepth 100000
set_option linter.unusedVariables false
set_option linter.unusedSimpArgs false
namespace Go.Proofs.Ytpefhojmfcenfaa.conf
open Go.Ahs

/-! ## The reference's Level -/

def better (xs : List Nat) (best x : Nat) : Nat := if xs.length < 2 * geN xs x ∧ best < x then x else best
def bestF (xs : List Nat) : Nat := xs.foldl (better xs) 0

theorem best_level {xs : List Nat} {lv : Nat} (h : LevelIs xs lv) : bestF xs = lv := by
  by_cases h0 : xs = []
  · rw [h0, h.1 h0]; rfl
  · obtain ⟨c1, c2, c3⟩ := h.2 h0
    have small : ∀ x, xs.length < 2 * geN xs x → x ≤ lv := by
      intro x hx
      rcases Nat.lt_or_ge lv x with g | g
      · exfalso
        have : geN xs x ≤ gtN xs lv := by
          unfold geN gtN
          refine List.countP_mono_left fun y _ hy => ?_
          rw [decide_eq_true_iff] at hy ⊢
          omega
        omega
      · exact g
    have key : ∀ (ys : List Nat) (b : Nat), b ≤ lv → ys.foldl (better xs) b ≤ lv ∧ ((lv ∈ ys ∨ b = lv) → ys.foldl (better xs) b = lv) := by
      intro ys
      induction ys with
      | nil => intro b hb; exact ⟨hb, fun h => by rcases h with h | h; simp at h; exact h⟩
      | cons y ys ih =>
        intro b hb
        rw [List.foldl_cons]
        have hb' : better xs b y ≤ lv := by
          unfold better
          split
          · rename_i hc; exact small y hc.1
          · exact hb
        obtain ⟨i1, i2⟩ := ih _ hb'
        refine ⟨i1, fun hm => ?_⟩
        rcases hm with hm | hm
        · rcases List.mem_cons.1 hm with e | hm
          · subst e
            refine i2 (.inr ?_)
            unfold better
            split
            · rfl
            · rename_i hc
              rcases Nat.lt_or_ge b lv with g | g
              · exact absurd ⟨c2, g⟩ hc
              · omega
          · exact i2 (.inl hm)
        · refine i2 (.inr ?_)
          subst hm
          unfold better
          split
          · rename_i hc; have := small y hc.1; omega
          · rfl
    exact (key xs 0 (Nat.zero_le _)).2 (.inl c1)

section
variable {n lim : Nat}

theorem rlev_inner {R : Caller} {N : Nat} {K : AVal → Heap → Prop} {rec0 : AVal → AVal → AVal → AVal → Heap → Prop} {H : Heap} {b : Nat} {marks l : List Nat} {vl t6 t7 : AVal} (hb : H.cells b = some (mk marks)) (hm : marks.length = 6) (hvl : Sl H 1 vl (u8s l)) (hlt : ∀ x ∈ l, x < 6) (hlen : l.length < 1000) {x : Nat} :
    ∀ (fuel k c : Nat), l.length < fuel + k → k ≤ l.length → c = (l.take k).countP (fun y => decide (x ≤ marks.getD y 0)) →
    F52_j2 R lim N K rec0 (.ptr (some (b, 0))) vl t6 t7 (.int .u64 (x : Int)) (.int .i64 (l.countP (fun y => decide (x ≤ marks.getD y 0)) : Nat)) H →
    F52_l2 R lim N K rec0 fuel (.ptr (some (b, 0))) vl t6 t7 (.int .u64 (x : Int)) (.int .i64 (c : Int)) (.int .i64 (k : Int)) H
  | 0, k, c, h1, h2, hc, hK => by exfalso; omega
  | fuel + 1, k, c, h1, h2, hc, hK => by
    show F52_s2 R lim N K rec0 (F52_l2 R lim N K rec0 fuel) _ vl _ _ _ _ _ H
    unfold F52_s2
    have hlen' := hvl.len
    rw [u8s_len] at hlen'
    have hcl : c ≤ k := by
      rw [hc]
      have := List.countP_le_length (p := fun y => decide (x ≤ marks.getD y 0)) (l := l.take k)
      rw [List.length_take] at this; omega
    by_cases hi : k < l.length
    · have hd : decide ((k : Int) < (l.length : Int)) = true := dT (by omega)
      have hx6 := hlt l[k] (List.getElem_mem hi)
      have hcs : (l.take (k + 1)).countP (fun y => decide (x ≤ marks.getD y 0)) = c + if decide (x ≤ marks.getD l[k] 0) = true then 1 else 0 := by
        rw [List.take_succ_eq_append_getElem hi, List.countP_append, ← hc]; simp only [List.countP_cons, List.countP_nil, Nat.zero_add]
      by_cases g : x ≤ marks.getD l[k] 0
      · have gd' : decide ((x : Int) ≤ ((marks.getD l[k] 0 : Nat) : Int)) = true := dT (by omega)
        (repeat (first | (with_reducible apply bindP_intro; (focus (first | with_reducible rfl | (simp only [walkR, get0, getS, Nat.zero_add, Nat.add_zero, Bool.not_true, Bool.not_false, decide_true, decide_false, reduceIte, and_self, Bool.false_eq_true, hlen', hd, hvl.addr (k := .i64) (i := k) (by rw [u8s_len]; exact hi), hvl.load1 (u8s_get hi), addr6 (b := b) (kd := .u8) hx6, load6 hb hm hx6, gd', i64_succ (show c < 9223372036854775807 by omega)] <;> with_reducible rfl)))) | (with_reducible apply bind2_intro; (focus (first | with_reducible rfl | (simp only [walkR, get0, getS, Nat.zero_add, Nat.add_zero, Bool.not_true, Bool.not_false, decide_true, decide_false, reduceIte, and_self, Bool.false_eq_true, hlen', hd, hvl.addr (k := .i64) (i := k) (by rw [u8s_len]; exact hi), hvl.load1 (u8s_get hi), addr6 (b := b) (kd := .u8) hx6, load6 hb hm hx6, gd', i64_succ (show c < 9223372036854775807 by omega)] <;> with_reducible rfl)))) | with_reducible apply cond_t | with_reducible apply cond_f))
        unfold F52_j3
        (repeat (first | (with_reducible apply bindP_intro; (focus (first | with_reducible rfl | (simp only [walkR, get0, getS, Nat.zero_add, Nat.add_zero, Bool.not_true, Bool.not_false, decide_true, decide_false, reduceIte, and_self, Bool.false_eq_true, i64_succ (show k < 9223372036854775807 by omega)] <;> with_reducible rfl)))) | (with_reducible apply bind2_intro; (focus (first | with_reducible rfl | (simp only [walkR, get0, getS, Nat.zero_add, Nat.add_zero, Bool.not_true, Bool.not_false, decide_true, decide_false, reduceIte, and_self, Bool.false_eq_true, i64_succ (show k < 9223372036854775807 by omega)] <;> with_reducible rfl)))) | with_reducible apply cond_t | with_reducible apply cond_f))
        exact rlev_inner hb hm hvl hlt hlen fuel (k + 1) (c + 1) (by omega) (by omega) (by rw [hcs, if_pos (by simpa using g)]) hK
      · have gd' : decide ((x : Int) ≤ ((marks.getD l[k] 0 : Nat) : Int)) = false := dF (by omega)
        (repeat (first | (with_reducible apply bindP_intro; (focus (first | with_reducible rfl | (simp only [walkR, get0, getS, Nat.zero_add, Nat.add_zero, Bool.not_true, Bool.not_false, decide_true, decide_false, reduceIte, and_self, Bool.false_eq_true, hlen', hd, hvl.addr (k := .i64) (i := k) (by rw [u8s_len]; exact hi), hvl.load1 (u8s_get hi), addr6 (b := b) (kd := .u8) hx6, load6 hb hm hx6, gd'] <;> with_reducible rfl)))) | (with_reducible apply bind2_intro; (focus (first | with_reducible rfl | (simp only [walkR, get0, getS, Nat.zero_add, Nat.add_zero, Bool.not_true, Bool.not_false, decide_true, decide_false, reduceIte, and_self, Bool.false_eq_true, hlen', hd, hvl.addr (k := .i64) (i := k) (by rw [u8s_len]; exact hi), hvl.load1 (u8s_get hi), addr6 (b := b) (kd := .u8) hx6, load6 hb hm hx6, gd'] <;> with_reducible rfl)))) | with_reducible apply cond_t | with_reducible apply cond_f))
        unfold F52_j3
        (repeat (first | (with_reducible apply bindP_intro; (focus (first | with_reducible rfl | (simp only [walkR, get0, getS, Nat.zero_add, Nat.add_zero, Bool.not_true, Bool.not_false, decide_true, decide_false, reduceIte, and_self, Bool.false_eq_true, i64_succ (show k < 9223372036854775807 by omega)] <;> with_reducible rfl)))) | (with_reducible apply bind2_intro; (focus (first | with_reducible rfl | (simp only [walkR, get0, getS, Nat.zero_add, Nat.add_zero, Bool.not_true, Bool.not_false, decide_true, decide_false, reduceIte, and_self, Bool.false_eq_true, i64_succ (show k < 9223372036854775807 by omega)] <;> with_reducible rfl)))) | with_reducible apply cond_t | with_reducible apply cond_f))
        exact rlev_inner hb hm hvl hlt hlen fuel (k + 1) c (by omega) (by omega) (by rw [hcs, if_neg (by simpa using g)]; rfl) hK
    · have hd : decide ((k : Int) < (l.length : Int)) = false := dF (by omega)
      (repeat (first | (with_reducible apply bindP_intro; (focus (first | with_reducible rfl | (simp only [walkR, get0, getS, Nat.zero_add, Nat.add_zero, Bool.not_true, Bool.not_false, decide_true, decide_false, reduceIte, and_self, Bool.false_eq_true, hlen', hd] <;> with_reducible rfl)))) | (with_reducible apply bind2_intro; (focus (first | with_reducible rfl | (simp only [walkR, get0, getS, Nat.zero_add, Nat.add_zero, Bool.not_true, Bool.not_false, decide_true, decide_false, reduceIte, and_self, Bool.false_eq_true, hlen', hd] <;> with_reducible rfl)))) | with_reducible apply cond_t | with_reducible apply cond_f))
      rw [List.take_of_length_le (by omega)] at hc
      rw [hc]
      exact hK

theorem rlev_outer {R : Caller} {N : Nat} {K : AVal → Heap → Prop} {H : Heap} {b : Nat} {marks l : List Nat} {vl : AVal} (hb : H.cells b = some (mk marks)) (hm : marks.length = 6) (hvl : Sl H 1 vl (u8s l)) (hlt : ∀ x ∈ l, x < 6) (hlen : l.length < 1000) (hN : l.length < N)
    (hK : K (.int .u64 (bestF (l.map fun x => marks.getD x 0) : Nat)) H) : ∀ (fuel i best : Nat), l.length < fuel + i → i ≤ l.length →
    best = ((l.map fun x => marks.getD x 0).take i).foldl (better (l.map fun x => marks.getD x 0)) 0 →
    F52_l0 R lim N K fuel (.ptr (some (b, 0))) vl (.int .u64 (best : Int)) (.int .i64 (i : Int)) H
  | 0, i, best, h1, h2, hc => by exfalso; omega
  | fuel + 1, i, best, h1, h2, hc => by
    show F52_s0 R lim N K (F52_l0 R lim N K fuel) _ vl _ _ H
    unfold F52_s0
    have hlen' := hvl.len
    rw [u8s_len] at hlen'
    by_cases hi : i < l.length
    · have hd : decide ((i : Int) < (l.length : Int)) = true := dT (by omega)
      have hx6 := hlt l[i] (List.getElem_mem hi)
      (repeat (first | (with_reducible apply bindP_intro; (focus (first | with_reducible rfl | (simp only [walkR, get0, getS, Nat.zero_add, Nat.add_zero, Bool.not_true, Bool.not_false, decide_true, decide_false, reduceIte, and_self, Bool.false_eq_true, hlen', hd, hvl.addr (k := .i64) (i := i) (by rw [u8s_len]; exact hi), hvl.load1 (u8s_get hi), addr6 (b := b) (kd := .u8) hx6, load6 hb hm hx6] <;> with_reducible rfl)))) | (with_reducible apply bind2_intro; (focus (first | with_reducible rfl | (simp only [walkR, get0, getS, Nat.zero_add, Nat.add_zero, Bool.not_true, Bool.not_false, decide_true, decide_false, reduceIte, and_self, Bool.false_eq_true, hlen', hd, hvl.addr (k := .i64) (i := i) (by rw [u8s_len]; exact hi), hvl.load1 (u8s_get hi), addr6 (b := b) (kd := .u8) hx6, load6 hb hm hx6] <;> with_reducible rfl)))) | with_reducible apply cond_t | with_reducible apply cond_f))
      refine rlev_inner hb hm hvl hlt hlen N 0 0 (by omega) (by omega) rfl ?_
      unfold F52_j2
      have hcle : l.countP (fun y => decide (marks.getD l[i] 0 ≤ marks.getD y 0)) ≤ l.length := List.countP_le_length
      have hge : geN (l.map fun x => marks.getD x 0) (marks.getD l[i] 0) = l.countP (fun y => decide (marks.getD l[i] 0 ≤ marks.getD y 0)) := by
        unfold geN; rw [List.countP_map]; rfl
      have hil : i < (l.map fun x => marks.getD x 0).length := by rw [List.length_map]; exact hi
      have hnext : ((l.map fun x => marks.getD x 0).take (i + 1)).foldl (better (l.map fun x => marks.getD x 0)) 0 = better (l.map fun x => marks.getD x 0) best (marks.getD l[i] 0) := by
        rw [List.take_succ_eq_append_getElem hil, List.foldl_append, ← hc, List.getElem_map]; rfl
      have hbet : better (l.map fun x => marks.getD x 0) best (marks.getD l[i] 0) = if l.length < 2 * l.countP (fun y => decide (marks.getD l[i] 0 ≤ marks.getD y 0)) ∧ best < marks.getD l[i] 0 then marks.getD l[i] 0 else best := by
        unfold better
        rw [hge, List.length_map]
      rw [hbet] at hnext
      generalize hcc : l.countP (fun y => decide (marks.getD l[i] 0 ≤ marks.getD y 0)) = c at hcle hnext
      have hw1 : IntKind.i64.wrap ((l.length : Int) - (c : Int)) = ((l.length - c : Nat) : Int) := by rw [wrap_i64 (by omega) (by omega)]; omega
      by_cases q1 : l.length < 2 * c
      · have d1 : decide (((l.length - c : Nat) : Int) < (c : Int)) = true := dT (by omega)
        by_cases q2 : best < marks.getD l[i] 0
        · have d2 : decide ((best : Int) < ((marks.getD l[i] 0 : Nat) : Int)) = true := dT (by omega)
          (repeat (first | (with_reducible apply bindP_intro; (focus (first | with_reducible rfl | (simp only [walkR, get0, getS, Nat.zero_add, Nat.add_zero, Bool.not_true, Bool.not_false, decide_true, decide_false, reduceIte, and_self, Bool.false_eq_true, hlen', hw1, d1, d2] <;> with_reducible rfl)))) | (with_reducible apply bind2_intro; (focus (first | with_reducible rfl | (simp only [walkR, get0, getS, Nat.zero_add, Nat.add_zero, Bool.not_true, Bool.not_false, decide_true, decide_false, reduceIte, and_self, Bool.false_eq_true, hlen', hw1, d1, d2] <;> with_reducible rfl)))) | with_reducible apply cond_t | with_reducible apply cond_f))
          unfold F52_j1
          (repeat (first | (with_reducible apply bindP_intro; (focus (first | with_reducible rfl | (simp only [walkR, get0, getS, Nat.zero_add, Nat.add_zero, Bool.not_true, Bool.not_false, decide_true, decide_false, reduceIte, and_self, Bool.false_eq_true, i64_succ (show i < 9223372036854775807 by omega)] <;> with_reducible rfl)))) | (with_reducible apply bind2_intro; (focus (first | with_reducible rfl | (simp only [walkR, get0, getS, Nat.zero_add, Nat.add_zero, Bool.not_true, Bool.not_false, decide_true, decide_false, reduceIte, and_self, Bool.false_eq_true, i64_succ (show i < 9223372036854775807 by omega)] <;> with_reducible rfl)))) | with_reducible apply cond_t | with_reducible apply cond_f))
          exact rlev_outer hb hm hvl hlt hlen hN hK fuel (i + 1) _ (by omega) (by omega) (by rw [hnext, if_pos ⟨q1, q2⟩])
        · have d2 : decide ((best : Int) < ((marks.getD l[i] 0 : Nat) : Int)) = false := dF (by omega)
          (repeat (first | (with_reducible apply bindP_intro; (focus (first | with_reducible rfl | (simp only [walkR, get0, getS, Nat.zero_add, Nat.add_zero, Bool.not_true, Bool.not_false, decide_true, decide_false, reduceIte, and_self, Bool.false_eq_true, hlen', hw1, d1, d2] <;> with_reducible rfl)))) | (with_reducible apply bind2_intro; (focus (first | with_reducible rfl | (simp only [walkR, get0, getS, Nat.zero_add, Nat.add_zero, Bool.not_true, Bool.not_false, decide_true, decide_false, reduceIte, and_self, Bool.false_eq_true, hlen', hw1, d1, d2] <;> with_reducible rfl)))) | with_reducible apply cond_t | with_reducible apply cond_f))
          unfold F52_j1
          (repeat (first | (with_reducible apply bindP_intro; (focus (first | with_reducible rfl | (simp only [walkR, get0, getS, Nat.zero_add, Nat.add_zero, Bool.not_true, Bool.not_false, decide_true, decide_false, reduceIte, and_self, Bool.false_eq_true, i64_succ (show i < 9223372036854775807 by omega)] <;> with_reducible rfl)))) | (with_reducible apply bind2_intro; (focus (first | with_reducible rfl | (simp only [walkR, get0, getS, Nat.zero_add, Nat.add_zero, Bool.not_true, Bool.not_false, decide_true, decide_false, reduceIte, and_self, Bool.false_eq_true, i64_succ (show i < 9223372036854775807 by omega)] <;> with_reducible rfl)))) | with_reducible apply cond_t | with_reducible apply cond_f))
          exact rlev_outer hb hm hvl hlt hlen hN hK fuel (i + 1) _ (by omega) (by omega) (by rw [hnext, if_neg (fun h => q2 h.2)])
      · have d1 : decide (((l.length - c : Nat) : Int) < (c : Int)) = false := dF (by omega)
        (repeat (first | (with_reducible apply bindP_intro; (focus (first | with_reducible rfl | (simp only [walkR, get0, getS, Nat.zero_add, Nat.add_zero, Bool.not_true, Bool.not_false, decide_true, decide_false, reduceIte, and_self, Bool.false_eq_true, hlen', hw1, d1] <;> with_reducible rfl)))) | (with_reducible apply bind2_intro; (focus (first | with_reducible rfl | (simp only [walkR, get0, getS, Nat.zero_add, Nat.add_zero, Bool.not_true, Bool.not_false, decide_true, decide_false, reduceIte, and_self, Bool.false_eq_true, hlen', hw1, d1] <;> with_reducible rfl)))) | with_reducible apply cond_t | with_reducible apply cond_f))
        unfold F52_j1
        (repeat (first | (with_reducible apply bindP_intro; (focus (first | with_reducible rfl | (simp only [walkR, get0, getS, Nat.zero_add, Nat.add_zero, Bool.not_true, Bool.not_false, decide_true, decide_false, reduceIte, and_self, Bool.false_eq_true, i64_succ (show i < 9223372036854775807 by omega)] <;> with_reducible rfl)))) | (with_reducible apply bind2_intro; (focus (first | with_reducible rfl | (simp only [walkR, get0, getS, Nat.zero_add, Nat.add_zero, Bool.not_true, Bool.not_false, decide_true, decide_false, reduceIte, and_self, Bool.false_eq_true, i64_succ (show i < 9223372036854775807 by omega)] <;> with_reducible rfl)))) | with_reducible apply cond_t | with_reducible apply cond_f))
        exact rlev_outer hb hm hvl hlt hlen hN hK fuel (i + 1) _ (by omega) (by omega) (by rw [hnext, if_neg (fun h => q1 h.1)])
    · have hd : decide ((i : Int) < (l.length : Int)) = false := dF (by omega)
      (repeat (first | (with_reducible apply bindP_intro; (focus (first | with_reducible rfl | (simp only [walkR, get0, getS, Nat.zero_add, Nat.add_zero, Bool.not_true, Bool.not_false, decide_true, decide_false, reduceIte, and_self, Bool.false_eq_true, hlen', hd] <;> with_reducible rfl)))) | (with_reducible apply bind2_intro; (focus (first | with_reducible rfl | (simp only [walkR, get0, getS, Nat.zero_add, Nat.add_zero, Bool.not_true, Bool.not_false, decide_true, decide_false, reduceIte, and_self, Bool.false_eq_true, hlen', hd] <;> with_reducible rfl)))) | with_reducible apply cond_t | with_reducible apply cond_f))
      unfold F52_j0
      rw [List.take_of_length_le (by rw [List.length_map]; omega)] at hc
      rw [hc]
      exact hK

theorem rlevel52 {H : Heap} {m : Nat} {marks : List Nat} (hm : m < 256) (hk : marks.length = 6) (hl : lim ≤ H.next) (hn : 6 ≤ n) :
    ∃ r H', Ahs.runT ap (n + 2) lim (.fn 52) [.int .u8 (m : Int), .agg (mk marks)] H = some (r, H') ∧ r = .int .u64 (bestF (marksOf marks m) : Nat) ∧ Keeps2 H H' := by
  refine F52_run (n := n + 1) a52 ?_
  unfold F52
  have hbox : (if (AVal.agg (mk marks)).cells.all (·.one) then some (AVal.ptr (some (H.next, 0)), H.push (.cells (AVal.agg (mk marks)).cells)) else none) = some (AVal.ptr (some (H.next, 0)), H.push (.cells (mk marks))) := by
    have : (AVal.agg (mk marks)).cells = mk marks := rfl
    rw [this, mk_one, if_pos rfl]
  obtain ⟨l, H1, e1, e2⟩ := list44 (n := n) (H := H.push (.cells (mk marks))) (lim := lim) hm (by rw [Heap.next_push]; omega) hn
  refine bind2_intro hbox ?_
  (repeat (first | (with_reducible apply bindP_intro; (focus (first | with_reducible rfl | (simp only [walkR, get0, getS, Nat.zero_add, Nat.add_zero, Bool.not_true, Bool.not_false, decide_true, decide_false, reduceIte, and_self, Bool.false_eq_true, e1] <;> with_reducible rfl)))) | (with_reducible apply bind2_intro; (focus (first | with_reducible rfl | (simp only [walkR, get0, getS, Nat.zero_add, Nat.add_zero, Bool.not_true, Bool.not_false, decide_true, decide_false, reduceIte, and_self, Bool.false_eq_true, e1] <;> with_reducible rfl)))) | with_reducible apply cond_t | with_reducible apply cond_f))
  exact rlev_outer (e2.keeps.cells (cells_push_new H _)) hk e2.sl (list_lt6 m) (by have := list_len m; omega) (by have := list_len m; omega) ⟨rfl, (Keeps2.push H _).trans e2.keeps⟩ _ 0 0 (by have := list_len m; omega) (by omega) rfl

/-! ## The reference's Add, Out -/

theorem add_of (m x : Nat) (hm : m < 256) (hx1 : 1 ≤ x) (hx2 : x ≤ 5) : ofN (listN m ++ [x]) = (m ||| bitN x) &&& 31 := by
  have := allBelow_get (allBelow_get (p := fun m => allBelow (fun x => ofN (listN m ++ [x]) == ((m ||| bitN x) &&& 31)) 6) (n := 256) (by kernel_rfl) m hm) x (by omega)
  exact beq_iff_eq.1 this
theorem out_of (m x : Nat) (hm : m < 256) (hx1 : 1 ≤ x) (hx2 : x ≤ 5) : ofN ((listN m).filter fun y => !(y == x)) = (m &&& (255 - bitN x)) &&& 31 := by
  have := allBelow_get (allBelow_get (p := fun m => allBelow (fun x => ofN ((listN m).filter fun y => !(y == x)) == ((m &&& (255 - bitN x)) &&& 31)) 6) (n := 256) (by kernel_rfl) m hm) x (by omega)
  exact beq_iff_eq.1 this
theorem bit_zero {x : Nat} : bitN x = 0 ↔ ¬ (1 ≤ x ∧ x ≤ 5) := by
  unfold bitN
  split
  · rename_i h
    have := Nat.two_pow_pos (x - 1)
    constructor
    · intro e; omega
    · intro e; exact absurd h e
  · rename_i h; simp [h]

theorem radd48 {H : Heap} {m x : Nat} (hm : m < 256) (hx : x < 256) (hl : lim ≤ H.next) (hn : 10 ≤ n) :
    ∃ r H', Ahs.runT ap (n + 3) lim (.fn 48) [.int .u8 (m : Int), .int .u8 (x : Int)] H = some (r, H') ∧ r = .tup [.int .u8 ((addN m x).1 : Int), .int .i64 ((addN m x).2 : Int)] ∧ Keeps2 H H' := by
  refine F48_run (n := n + 2) a48 ?_
  unfold F48 addN
  by_cases h1 : x < 1
  · have d1 : decide ((x : Int) < 1) = true := dT (by omega)
    (repeat (first | (with_reducible apply bindP_intro; (focus (first | with_reducible rfl | (simp only [walkR, get0, getS, Nat.zero_add, Nat.add_zero, Bool.not_true, Bool.not_false, decide_true, decide_false, reduceIte, and_self, Bool.false_eq_true, d1] <;> with_reducible rfl)))) | (with_reducible apply bind2_intro; (focus (first | with_reducible rfl | (simp only [walkR, get0, getS, Nat.zero_add, Nat.add_zero, Bool.not_true, Bool.not_false, decide_true, decide_false, reduceIte, and_self, Bool.false_eq_true, d1] <;> with_reducible rfl)))) | with_reducible apply cond_t | with_reducible apply cond_f))
    rw [if_pos (bit_zero.2 (by omega))]
    exact ⟨rfl, .refl _⟩
  · have d1 : decide ((x : Int) < 1) = false := dF (by omega)
    by_cases h2 : 5 < x
    · have d2 : decide ((5 : Int) < (x : Int)) = true := dT (by omega)
      (repeat (first | (with_reducible apply bindP_intro; (focus (first | with_reducible rfl | (simp only [walkR, get0, getS, Nat.zero_add, Nat.add_zero, Bool.not_true, Bool.not_false, decide_true, decide_false, reduceIte, and_self, Bool.false_eq_true, d1, d2] <;> with_reducible rfl)))) | (with_reducible apply bind2_intro; (focus (first | with_reducible rfl | (simp only [walkR, get0, getS, Nat.zero_add, Nat.add_zero, Bool.not_true, Bool.not_false, decide_true, decide_false, reduceIte, and_self, Bool.false_eq_true, d1, d2] <;> with_reducible rfl)))) | with_reducible apply cond_t | with_reducible apply cond_f))
      rw [if_pos (bit_zero.2 (by omega))]
      exact ⟨rfl, .refl _⟩
    · have d2 : decide ((5 : Int) < (x : Int)) = false := dF (by omega)
      rw [if_neg (fun e => bit_zero.1 e ⟨by omega, by omega⟩)]
      obtain ⟨_, H1, e1, rfl, k1⟩ := rhas46 (n := n) (lim := lim) (H := H) (x := x) hm hl (by omega)
      cases hh : hasN m x with
      | true =>
        rw [hh] at e1
        (repeat (first | (with_reducible apply bindP_intro; (focus (first | with_reducible rfl | (simp only [walkR, get0, getS, Nat.zero_add, Nat.add_zero, Bool.not_true, Bool.not_false, decide_true, decide_false, reduceIte, and_self, Bool.false_eq_true, d1, d2, e1] <;> with_reducible rfl)))) | (with_reducible apply bind2_intro; (focus (first | with_reducible rfl | (simp only [walkR, get0, getS, Nat.zero_add, Nat.add_zero, Bool.not_true, Bool.not_false, decide_true, decide_false, reduceIte, and_self, Bool.false_eq_true, d1, d2, e1] <;> with_reducible rfl)))) | with_reducible apply cond_t | with_reducible apply cond_f))
        exact ⟨rfl, k1⟩
      | false =>
        rw [hh] at e1
        have hl1 := Nat.le_trans hl k1.next
        obtain ⟨l, H2, e2, f2⟩ := list44 (n := n + 1) (H := H1) (lim := lim) hm hl1 (by omega)
        have hf : fillV [(.int .u8 0)] [(0, 1, .int .u8 (x : Int))] = some [.int .u8 (x : Int)] := rfl
        obtain ⟨v', H3, e3, f3⟩ := f2.push1 (lim := lim) (bytes := 1) (zero := [.int .u8 0]) (x := [.int .u8 (x : Int)]) rfl (by omega) rfl rfl hl1 (by rw [u8s_len]; have := list_len m; unfold room; omega) (by rw [u8s_len]; have := list_len m; unfold room; omega)
        rw [u8s_app] at f3
        have h4 := rof45 (n := n) (lim := lim) f3.sl (by have := list_len m; simp; omega) (by have := list_len m; simp; omega) (by omega)
        (repeat (first | (with_reducible apply bindP_intro; (focus (first | with_reducible rfl | (simp only [walkR, get0, getS, Nat.zero_add, Nat.add_zero, Bool.not_true, Bool.not_false, decide_true, decide_false, reduceIte, and_self, Bool.false_eq_true, d1, d2, e1, e2, hf, e3, h4] <;> with_reducible rfl)))) | (with_reducible apply bind2_intro; (focus (first | with_reducible rfl | (simp only [walkR, get0, getS, Nat.zero_add, Nat.add_zero, Bool.not_true, Bool.not_false, decide_true, decide_false, reduceIte, and_self, Bool.false_eq_true, d1, d2, e1, e2, hf, e3, h4] <;> with_reducible rfl)))) | with_reducible apply cond_t | with_reducible apply cond_f))
        rw [add_of m x hm (by omega) (by omega)]
        exact ⟨rfl, k1.trans f3.keeps⟩

theorem rout_loop {H0 : Heap} {x : Nat} {l : List Nat} {vl : AVal} (hvl : Sl H0 1 vl (u8s l)) (hlen : l.length ≤ 5) (hl : lim ≤ H0.next) (hn : 10 ≤ n) {K : AVal → Heap → Prop}
    (hK : ∀ H', Keeps2 H0 H' → K (.tup [.int .u8 (ofN (l.filter fun y => !(y == x)) : Nat), .int .i64 0]) H') : ∀ (fuel i : Nat) (v : AVal) (H : Heap), l.length < fuel + i → i ≤ l.length → Fresh H0 H 1 v (u8s ((l.take i).filter fun y => !(y == x))) →
    F50_l0 (Ahs.runT ap (n + 2)) lim (n + 2) K fuel (.int .u8 (x : Int)) vl v (.int .i64 (i : Int)) H
  | 0, i, v, H, h1, h2, hv => by exfalso; omega
  | fuel + 1, i, v, H, h1, h2, hv => by
    show F50_s0 _ lim _ K (F50_l0 _ lim _ K fuel) _ vl v _ H
    unfold F50_s0
    have hsl := hvl.keep hv.keeps
    have hlen' := hsl.len
    rw [u8s_len] at hlen'
    by_cases hi : i < l.length
    · have hd : decide ((i : Int) < (l.length : Int)) = true := dT (by omega)
      have hfl : ((l.take i).filter fun y => !(y == x)).length ≤ i := by
        have := List.length_filter_le (fun y => !(y == x)) (l.take i)
        rw [List.length_take] at this; omega
      have hnext : (l.take (i + 1)).filter (fun y => !(y == x)) = (l.take i).filter (fun y => !(y == x)) ++ if (!(l[i] == x)) = true then [l[i]] else [] := by
        rw [List.take_succ_eq_append_getElem hi, List.filter_append, List.filter_cons, List.filter_nil]
      by_cases hq : l[i] = x
      · have q : ((l[i] : Int) != (x : Int)) = false := by rw [hq]; simp
        (repeat (first | (with_reducible apply bindP_intro; (focus (first | with_reducible rfl | (simp only [walkR, get0, getS, Nat.zero_add, Nat.add_zero, Bool.not_true, Bool.not_false, decide_true, decide_false, reduceIte, and_self, Bool.false_eq_true, hlen', hd, hsl.addr (k := .i64) (i := i) (by rw [u8s_len]; exact hi), hsl.load1 (u8s_get hi), q] <;> with_reducible rfl)))) | (with_reducible apply bind2_intro; (focus (first | with_reducible rfl | (simp only [walkR, get0, getS, Nat.zero_add, Nat.add_zero, Bool.not_true, Bool.not_false, decide_true, decide_false, reduceIte, and_self, Bool.false_eq_true, hlen', hd, hsl.addr (k := .i64) (i := i) (by rw [u8s_len]; exact hi), hsl.load1 (u8s_get hi), q] <;> with_reducible rfl)))) | with_reducible apply cond_t | with_reducible apply cond_f))
        unfold F50_j1
        (repeat (first | (with_reducible apply bindP_intro; (focus (first | with_reducible rfl | (simp only [walkR, get0, getS, Nat.zero_add, Nat.add_zero, Bool.not_true, Bool.not_false, decide_true, decide_false, reduceIte, and_self, Bool.false_eq_true, i64_succ (show i < 9223372036854775807 by omega)] <;> with_reducible rfl)))) | (with_reducible apply bind2_intro; (focus (first | with_reducible rfl | (simp only [walkR, get0, getS, Nat.zero_add, Nat.add_zero, Bool.not_true, Bool.not_false, decide_true, decide_false, reduceIte, and_self, Bool.false_eq_true, i64_succ (show i < 9223372036854775807 by omega)] <;> with_reducible rfl)))) | with_reducible apply cond_t | with_reducible apply cond_f))
        refine rout_loop hvl hlen hl hn hK fuel (i + 1) v H (by omega) (by omega) ?_
        rw [hnext, if_neg (by simp [hq]), List.append_nil]
        exact hv
      · have q : ((l[i] : Int) != (x : Int)) = true := by simp; omega
        have hf : fillV [(.int .u8 0)] [(0, 1, .int .u8 (l[i] : Int))] = some [.int .u8 (l[i] : Int)] := rfl
        obtain ⟨v', H3, e3, f3⟩ := hv.push1 (lim := lim) (bytes := 1) (zero := [.int .u8 0]) (x := [.int .u8 (l[i] : Int)]) rfl (by omega) rfl rfl hl (by rw [u8s_len]; unfold room; omega) (by rw [u8s_len]; unfold room; omega)
        (repeat (first | (with_reducible apply bindP_intro; (focus (first | with_reducible rfl | (simp only [walkR, get0, getS, Nat.zero_add, Nat.add_zero, Bool.not_true, Bool.not_false, decide_true, decide_false, reduceIte, and_self, Bool.false_eq_true, hlen', hd, hsl.addr (k := .i64) (i := i) (by rw [u8s_len]; exact hi), hsl.load1 (u8s_get hi), q, hf, e3] <;> with_reducible rfl)))) | (with_reducible apply bind2_intro; (focus (first | with_reducible rfl | (simp only [walkR, get0, getS, Nat.zero_add, Nat.add_zero, Bool.not_true, Bool.not_false, decide_true, decide_false, reduceIte, and_self, Bool.false_eq_true, hlen', hd, hsl.addr (k := .i64) (i := i) (by rw [u8s_len]; exact hi), hsl.load1 (u8s_get hi), q, hf, e3] <;> with_reducible rfl)))) | with_reducible apply cond_t | with_reducible apply cond_f))
        unfold F50_j1
        (repeat (first | (with_reducible apply bindP_intro; (focus (first | with_reducible rfl | (simp only [walkR, get0, getS, Nat.zero_add, Nat.add_zero, Bool.not_true, Bool.not_false, decide_true, decide_false, reduceIte, and_self, Bool.false_eq_true, i64_succ (show i < 9223372036854775807 by omega)] <;> with_reducible rfl)))) | (with_reducible apply bind2_intro; (focus (first | with_reducible rfl | (simp only [walkR, get0, getS, Nat.zero_add, Nat.add_zero, Bool.not_true, Bool.not_false, decide_true, decide_false, reduceIte, and_self, Bool.false_eq_true, i64_succ (show i < 9223372036854775807 by omega)] <;> with_reducible rfl)))) | with_reducible apply cond_t | with_reducible apply cond_f))
        refine rout_loop hvl hlen hl hn hK fuel (i + 1) v' H3 (by omega) (by omega) ?_
        rw [hnext, if_pos (by simp [hq]), ← u8s_app]
        exact f3
    · have hd : decide ((i : Int) < (l.length : Int)) = false := dF (by omega)
      (repeat (first | (with_reducible apply bindP_intro; (focus (first | with_reducible rfl | (simp only [walkR, get0, getS, Nat.zero_add, Nat.add_zero, Bool.not_true, Bool.not_false, decide_true, decide_false, reduceIte, and_self, Bool.false_eq_true, hlen', hd] <;> with_reducible rfl)))) | (with_reducible apply bind2_intro; (focus (first | with_reducible rfl | (simp only [walkR, get0, getS, Nat.zero_add, Nat.add_zero, Bool.not_true, Bool.not_false, decide_true, decide_false, reduceIte, and_self, Bool.false_eq_true, hlen', hd] <;> with_reducible rfl)))) | with_reducible apply cond_t | with_reducible apply cond_f))
      unfold F50_j0
      rw [List.take_of_length_le (by omega)] at hv
      have hfl := List.length_filter_le (fun y => !(y == x)) l
      have h4 := rof45 (n := n) (lim := lim) hv.sl (by omega) (by omega) (by omega)
      (repeat (first | (with_reducible apply bindP_intro; (focus (first | with_reducible rfl | (simp only [walkR, get0, getS, Nat.zero_add, Nat.add_zero, Bool.not_true, Bool.not_false, decide_true, decide_false, reduceIte, and_self, Bool.false_eq_true, h4] <;> with_reducible rfl)))) | (with_reducible apply bind2_intro; (focus (first | with_reducible rfl | (simp only [walkR, get0, getS, Nat.zero_add, Nat.add_zero, Bool.not_true, Bool.not_false, decide_true, decide_false, reduceIte, and_self, Bool.false_eq_true, h4] <;> with_reducible rfl)))) | with_reducible apply cond_t | with_reducible apply cond_f))
      exact hK H hv.keeps

theorem rout50 {H : Heap} {m x : Nat} (hm : m < 256) (hx : x < 256) (hl : lim ≤ H.next) (hn : 10 ≤ n) :
    ∃ r H', Ahs.runT ap (n + 3) lim (.fn 50) [.int .u8 (m : Int), .int .u8 (x : Int)] H = some (r, H') ∧ r = .tup [.int .u8 ((outN m x).1 : Int), .int .i64 ((outN m x).2 : Int)] ∧ Keeps2 H H' := by
  refine F50_run (n := n + 2) a50 ?_
  unfold F50 outN
  by_cases h1 : x < 1
  · have d1 : decide ((x : Int) < 1) = true := dT (by omega)
    (repeat (first | (with_reducible apply bindP_intro; (focus (first | with_reducible rfl | (simp only [walkR, get0, getS, Nat.zero_add, Nat.add_zero, Bool.not_true, Bool.not_false, decide_true, decide_false, reduceIte, and_self, Bool.false_eq_true, d1] <;> with_reducible rfl)))) | (with_reducible apply bind2_intro; (focus (first | with_reducible rfl | (simp only [walkR, get0, getS, Nat.zero_add, Nat.add_zero, Bool.not_true, Bool.not_false, decide_true, decide_false, reduceIte, and_self, Bool.false_eq_true, d1] <;> with_reducible rfl)))) | with_reducible apply cond_t | with_reducible apply cond_f))
    rw [if_pos (bit_zero.2 (by omega))]
    exact ⟨rfl, .refl _⟩
  · have d1 : decide ((x : Int) < 1) = false := dF (by omega)
    by_cases h2 : 5 < x
    · have d2 : decide ((5 : Int) < (x : Int)) = true := dT (by omega)
      (repeat (first | (with_reducible apply bindP_intro; (focus (first | with_reducible rfl | (simp only [walkR, get0, getS, Nat.zero_add, Nat.add_zero, Bool.not_true, Bool.not_false, decide_true, decide_false, reduceIte, and_self, Bool.false_eq_true, d1, d2] <;> with_reducible rfl)))) | (with_reducible apply bind2_intro; (focus (first | with_reducible rfl | (simp only [walkR, get0, getS, Nat.zero_add, Nat.add_zero, Bool.not_true, Bool.not_false, decide_true, decide_false, reduceIte, and_self, Bool.false_eq_true, d1, d2] <;> with_reducible rfl)))) | with_reducible apply cond_t | with_reducible apply cond_f))
      rw [if_pos (bit_zero.2 (by omega))]
      exact ⟨rfl, .refl _⟩
    · have d2 : decide ((5 : Int) < (x : Int)) = false := dF (by omega)
      rw [if_neg (fun e => bit_zero.1 e ⟨by omega, by omega⟩)]
      obtain ⟨_, H1, e1, rfl, k1⟩ := rhas46 (n := n) (lim := lim) (H := H) (x := x) hm hl (by omega)
      cases hh : hasN m x with
      | false =>
        rw [hh] at e1
        (repeat (first | (with_reducible apply bindP_intro; (focus (first | with_reducible rfl | (simp only [walkR, get0, getS, Nat.zero_add, Nat.add_zero, Bool.not_true, Bool.not_false, decide_true, decide_false, reduceIte, and_self, Bool.false_eq_true, d1, d2, e1] <;> with_reducible rfl)))) | (with_reducible apply bind2_intro; (focus (first | with_reducible rfl | (simp only [walkR, get0, getS, Nat.zero_add, Nat.add_zero, Bool.not_true, Bool.not_false, decide_true, decide_false, reduceIte, and_self, Bool.false_eq_true, d1, d2, e1] <;> with_reducible rfl)))) | with_reducible apply cond_t | with_reducible apply cond_f))
        exact ⟨rfl, k1⟩
      | true =>
        rw [hh] at e1
        have hl1 := Nat.le_trans hl k1.next
        obtain ⟨l, H2, e2, f2⟩ := list44 (n := n + 1) (H := H1) (lim := lim) hm hl1 (by omega)
        (repeat (first | (with_reducible apply bindP_intro; (focus (first | with_reducible rfl | (simp only [walkR, get0, getS, Nat.zero_add, Nat.add_zero, Bool.not_true, Bool.not_false, decide_true, decide_false, reduceIte, and_self, Bool.false_eq_true, d1, d2, e1, e2] <;> with_reducible rfl)))) | (with_reducible apply bind2_intro; (focus (first | with_reducible rfl | (simp only [walkR, get0, getS, Nat.zero_add, Nat.add_zero, Bool.not_true, Bool.not_false, decide_true, decide_false, reduceIte, and_self, Bool.false_eq_true, d1, d2, e1, e2] <;> with_reducible rfl)))) | with_reducible apply cond_t | with_reducible apply cond_f))
        refine rout_loop f2.sl (list_len m) (Nat.le_trans hl1 f2.keeps.next) hn ?_ _ 0 _ H2 (by have := list_len m; omega) (by omega) (Fresh.nil H2 1)
        intro H' k
        rw [out_of m x hm (by omega) (by omega)]
        exact ⟨rfl, (k1.trans f2.keeps).trans k⟩

/-! ## The statement -/

theorem tells_end {H0 : Heap} {a b w x : Nat} {marks : List Nat} {t10 : Nat} (ha : a < 256) (hb : b < 256) (hw : w < 256) (hx : x < 256) (hk : marks.length = 6) (hc : H0.cells t10 = some (mk marks)) (hl : lim ≤ H0.next) {K : AVal → Heap → Prop} (hK : ∀ H, K (.bool true) H) :
    F12_j0 (Ahs.runT ap (n + 30)) lim (n + 30) K (.int .u8 (a : Int)) (.int .u8 (b : Int)) (.int .u8 (w : Int)) (.int .u8 (x : Int)) (.ptr (some (t10, 0))) H0 := by
  unfold F12_j0
  obtain ⟨_, H1, e1, rfl, k1⟩ := radd48 (n := n + 27) (H := H0) (lim := lim) ha hx hl (by omega)
  have hl1 := Nat.le_trans hl k1.next
  obtain ⟨_, H2, e2, rfl, k2⟩ := rout50 (n := n + 27) (H := H1) (lim := lim) ha hx hl1 (by omega)
  have hl2 := Nat.le_trans hl1 k2.next
  obtain ⟨_, H3, e3, rfl, k3⟩ := rwon51 (n := n + 27) (H := H2) (lim := lim) ha hw hl2 (by omega)
  have hl3 := Nat.le_trans hl2 k3.next
  obtain ⟨_, H4, e4, lv, rfl, hlv, k4⟩ := level37 (n := n + 23) (H := H3) (lim := H3.next) ha hk (Nat.le_refl _) (by omega)
  have hl4 := Nat.le_trans hl3 k4.next
  obtain ⟨_, H5, e5, rfl, k5⟩ := rlevel52 (n := n + 28) (H := H4) (lim := lim) ha hk hl4 (by omega)
  have hl5 := Nat.le_trans hl4 k5.next
  obtain ⟨_, H6, e6, rfl, k6⟩ := rnear53 (n := n + 27) (H := H5) (lim := lim) ha hb hl5 (by omega)
  rw [best_level hlv] at e5
  have c3 : H3.cells t10 = some (mk marks) := ((k1.trans k2).trans k3).cells hc
  have c4 := k4.cells c3
  have hml : (mk marks).length = 6 := by simp [mk, hk]
  have ld : ∀ H : Heap, H.cells t10 = some (mk marks) → aload H (some 6) (.ptr (some (t10, 0))) = some (.agg (mk marks)) := by
    intro H h
    rw [aload_agg h]
    simp only [Ahs.cut, Nat.zero_add, hml, Nat.le_refl, if_true, List.drop_zero, Option.map_some]
    rw [List.take_of_length_le (by omega)]
  have n1 : ((((addN a x).1 : Nat) : Int) != (((addN a x).1 : Nat) : Int)) = false := by simp
  have n2 : ((((addN a x).2 : Nat) : Int) != (((addN a x).2 : Nat) : Int)) = false := by simp
  have n3 : ((((outN a x).1 : Nat) : Int) != (((outN a x).1 : Nat) : Int)) = false := by simp
  have n4 : ((((outN a x).2 : Nat) : Int) != (((outN a x).2 : Nat) : Int)) = false := by simp
  have n5 : ((lv : Int) == (lv : Int)) = true := by simp
  have hq : ∀ b : Bool, eqvO false .bool (.bool b) (.bool b) = some (.bool true) := fun b => by cases b <;> rfl
  (repeat (first | (with_reducible apply bindP_intro; (focus (first | with_reducible rfl | (simp only [walkR, get0, getS, Nat.zero_add, Nat.add_zero, Bool.not_true, Bool.not_false, decide_true, decide_false, reduceIte, and_self, Bool.false_eq_true, add47 (n := n + 27) ha hx, e1, out49 (n := n + 27) ha hx, e2, n1, n2, n3, n4, won41 (n := n + 28) ha hw, e3, hq, ld H3 c3, e4, ld H4 c4, e5, n5, near42 (n := n + 28) ha hb, e6, b39] <;> with_reducible rfl)))) | (with_reducible apply bind2_intro; (focus (first | with_reducible rfl | (simp only [walkR, get0, getS, Nat.zero_add, Nat.add_zero, Bool.not_true, Bool.not_false, decide_true, decide_false, reduceIte, and_self, Bool.false_eq_true, add47 (n := n + 27) ha hx, e1, out49 (n := n + 27) ha hx, e2, n1, n2, n3, n4, won41 (n := n + 28) ha hw, e3, hq, ld H3 c3, e4, ld H4 c4, e5, n5, near42 (n := n + 28) ha hb, e6, b39] <;> with_reducible rfl)))) | with_reducible apply cond_t | with_reducible apply cond_f))
  exact hK _

theorem tells_loop {H0 : Heap} {a b w x : Nat} {marks l : List Nat} {t10 : Nat} {v1 v2 : AVal} (ha : a < 256) (hb : b < 256) (hw : w < 256) (hx : x < 256) (hk : marks.length = 6) (hc : H0.cells t10 = some (mk marks)) (hl : lim ≤ H0.next) {K : AVal → Heap → Prop} (hK : ∀ H, K (.bool true) H)
    (hv1 : Sl H0 1 v1 (u8s l)) (hv2 : Sl H0 1 v2 (u8s l)) (hlen : l.length < 1000) : ∀ (fuel i : Nat), l.length < fuel + i → i ≤ l.length →
    F12_l0 (Ahs.runT ap (n + 30)) lim (n + 30) K fuel (.int .u8 (a : Int)) (.int .u8 (b : Int)) (.int .u8 (w : Int)) (.int .u8 (x : Int)) (.ptr (some (t10, 0))) v1 v2 (.int .i64 (i : Int)) H0
  | 0, i, h1, h2 => by exfalso; omega
  | fuel + 1, i, h1, h2 => by
    show F12_s0 _ lim _ K (F12_l0 _ lim _ K fuel) _ _ _ _ _ v1 v2 _ H0
    unfold F12_s0
    have hlen' := hv1.len
    rw [u8s_len] at hlen'
    by_cases hi : i < l.length
    · have hd : decide ((i : Int) < (l.length : Int)) = true := dT (by omega)
      have q : ((l[i] : Int) != (l[i] : Int)) = false := by simp
      (repeat (first | (with_reducible apply bindP_intro; (focus (first | with_reducible rfl | (simp only [walkR, get0, getS, Nat.zero_add, Nat.add_zero, Bool.not_true, Bool.not_false, decide_true, decide_false, reduceIte, and_self, Bool.false_eq_true, hlen', hd, hv1.addr (k := .i64) (i := i) (by rw [u8s_len]; exact hi), hv1.load1 (u8s_get hi), hv2.addr (k := .i64) (i := i) (by rw [u8s_len]; exact hi), hv2.load1 (u8s_get hi), q, i64_succ (show i < 9223372036854775807 by omega)] <;> with_reducible rfl)))) | (with_reducible apply bind2_intro; (focus (first | with_reducible rfl | (simp only [walkR, get0, getS, Nat.zero_add, Nat.add_zero, Bool.not_true, Bool.not_false, decide_true, decide_false, reduceIte, and_self, Bool.false_eq_true, hlen', hd, hv1.addr (k := .i64) (i := i) (by rw [u8s_len]; exact hi), hv1.load1 (u8s_get hi), hv2.addr (k := .i64) (i := i) (by rw [u8s_len]; exact hi), hv2.load1 (u8s_get hi), q, i64_succ (show i < 9223372036854775807 by omega)] <;> with_reducible rfl)))) | with_reducible apply cond_t | with_reducible apply cond_f))
      exact tells_loop ha hb hw hx hk hc hl hK hv1 hv2 hlen fuel (i + 1) (by omega) (by omega)
    · have hd : decide ((i : Int) < (l.length : Int)) = false := dF (by omega)
      (repeat (first | (with_reducible apply bindP_intro; (focus (first | with_reducible rfl | (simp only [walkR, get0, getS, Nat.zero_add, Nat.add_zero, Bool.not_true, Bool.not_false, decide_true, decide_false, reduceIte, and_self, Bool.false_eq_true, hlen', hd] <;> with_reducible rfl)))) | (with_reducible apply bind2_intro; (focus (first | with_reducible rfl | (simp only [walkR, get0, getS, Nat.zero_add, Nat.add_zero, Bool.not_true, Bool.not_false, decide_true, decide_false, reduceIte, and_self, Bool.false_eq_true, hlen', hd] <;> with_reducible rfl)))) | with_reducible apply cond_t | with_reducible apply cond_f))
      exact tells_end ha hb hw hx hk hc hl hK

theorem tells12 {H : Heap} {a b w x : Nat} {marks l : List Nat} {v : AVal} (ha : a < 256) (hb : b < 256) (hw : w < 256) (hx : x < 256) (hk : marks.length = 6) (hv : Sl H 1 v (u8s l)) (hlt : ∀ x ∈ l, x < 256) (hl : lim ≤ H.next) :
    ∃ r H', Ahs.runT ap (n + 200) lim (.fn 12) [.int .u8 (a : Int), .int .u8 (b : Int), .int .u8 (w : Int), .int .u8 (x : Int), .agg (mk marks), v] H = some (r, H') ∧ r = .bool true := by
  refine F12_run (n := n + 199) (K := fun r _ => r = .bool true) a12 ?_
  unfold F12
  have hbox : (if (AVal.agg (mk marks)).cells.all (·.one) then some (AVal.ptr (some (H.next, 0)), H.push (.cells (AVal.agg (mk marks)).cells)) else none) = some (AVal.ptr (some (H.next, 0)), H.push (.cells (mk marks))) := by
    have : (AVal.agg (mk marks)).cells = mk marks := rfl
    rw [this, mk_one, if_pos rfl]
  refine bind2_intro hbox ?_
  have hlen' := hv.len
  rw [u8s_len] at hlen'
  by_cases h0 : 100 < l.length
  · have hd : decide ((100 : Int) < (l.length : Int)) = true := dT (by omega)
    (repeat (first | (with_reducible apply bindP_intro; (focus (first | with_reducible rfl | (simp only [walkR, get0, getS, Nat.zero_add, Nat.add_zero, Bool.not_true, Bool.not_false, decide_true, decide_false, reduceIte, and_self, Bool.false_eq_true, hlen', hd, b39] <;> with_reducible rfl)))) | (with_reducible apply bind2_intro; (focus (first | with_reducible rfl | (simp only [walkR, get0, getS, Nat.zero_add, Nat.add_zero, Bool.not_true, Bool.not_false, decide_true, decide_false, reduceIte, and_self, Bool.false_eq_true, hlen', hd, b39] <;> with_reducible rfl)))) | with_reducible apply cond_t | with_reducible apply cond_f))
    rfl
  · have hd : decide ((100 : Int) < (l.length : Int)) = false := dF (by omega)
    have hp : lim ≤ (H.push (.cells (mk marks))).next := by rw [Heap.next_push]; omega
    obtain ⟨v1, H1, e1, f1⟩ := list38 (n := n + 196) (H := H.push (.cells (mk marks))) (lim := lim) ha hp (by omega)
    have hl1 := Nat.le_trans hp f1.keeps.next
    obtain ⟨v2, H2, e2, f2⟩ := list44 (n := n + 198) (H := H1) (lim := lim) ha hl1 (by omega)
    have hl2 := Nat.le_trans hl1 f2.keeps.next
    have kA : Keeps2 (H.push (.cells (mk marks))) H2 := f1.keeps.trans f2.keeps
    have hv2 := hv.keep ((Keeps2.push H (.cells (mk marks))).trans kA)
    have ho := of40 (n := n + 197) (lim := lim) hv2 hlt (by omega) (by omega)
    have ho' := rof45 (n := n + 197) (lim := lim) hv2 (by omega) (by omega) (by omega)
    obtain ⟨_, H3, e3, rfl, k3⟩ := rhas46 (n := n + 197) (H := H2) (lim := lim) (x := x) ha hl2 (by omega)
    have hlen1 := f1.sl.len
    rw [u8s_len] at hlen1
    have hlen2 := f2.sl.len
    rw [u8s_len] at hlen2
    have n1 : (((listN a).length : Int) != ((listN a).length : Int)) = false := by simp
    have n2 : (((ofN l : Nat) : Int) != ((ofN l : Nat) : Int)) = false := by simp
    have hq : ∀ b : Bool, eqvO true .bool (.bool b) (.bool b) = some (.bool false) := fun b => by cases b <;> rfl
    (repeat (first | (with_reducible apply bindP_intro; (focus (first | with_reducible rfl | (simp only [walkR, get0, getS, Nat.zero_add, Nat.add_zero, Bool.not_true, Bool.not_false, decide_true, decide_false, reduceIte, and_self, Bool.false_eq_true, hlen', hd, e1, e2, hlen1, hlen2, n1, ho, ho', n2, has43 (n := n + 197) ha hx, e3, hq] <;> with_reducible rfl)))) | (with_reducible apply bind2_intro; (focus (first | with_reducible rfl | (simp only [walkR, get0, getS, Nat.zero_add, Nat.add_zero, Bool.not_true, Bool.not_false, decide_true, decide_false, reduceIte, and_self, Bool.false_eq_true, hlen', hd, e1, e2, hlen1, hlen2, n1, ho, ho', n2, has43 (n := n + 197) ha hx, e3, hq] <;> with_reducible rfl)))) | with_reducible apply cond_t | with_reducible apply cond_f))
    refine tells_loop (n := n + 169) ha hb hw hx hk ((kA.trans k3).cells (cells_push_new H _)) (Nat.le_trans hl2 k3.next) (fun _ => rfl) (f1.sl.keep (f2.keeps.trans k3)) (f2.sl.keep k3) (by have := list_len a; omega) _ 0 (by have := list_len a; omega) (by omega)

theorem arg_nodes {H : Heap} {a : AVal} (h : if false = true then ∃ cs, a = .agg cs ∧ Wf H (.slice (.int .u8 .nil) .nil) cs else Wf H (.slice (.int .u8 .nil) .nil) [a]) : ∃ l : List Nat, Sl H 1 a (u8s l) ∧ ∀ x ∈ l, x < 256 := by
  obtain ⟨v, _, h1, _, ⟨xs, h2, _, h3⟩, _⟩ := h
  simp at h1
  rw [h1.1]
  have key : ∀ ys : List (List AVal), (∀ x ∈ ys, Wf H (.int .u8 .nil) x) → ∃ l : List Nat, ys = u8s l ∧ ∀ a ∈ l, a < 256 := by
    intro ys
    induction ys with
    | nil => intro _; exact ⟨[], rfl, fun _ h => by simp at h⟩
    | cons y ys ih =>
      intro hy
      obtain ⟨n, _, he, hw, rfl⟩ := hy y (by simp)
      obtain ⟨m, rfl, hm⟩ := wfU8 hw
      obtain ⟨l, hl, hoks⟩ := ih (fun x hx => hy x (by simp [hx]))
      exact ⟨m :: l, by rw [he, hl]; rfl, fun a' ha' => by
        rcases List.mem_cons.1 ha' with rfl | ha'
        · exact hm
        · exact hoks a' ha'⟩
  obtain ⟨l, rfl, hok⟩ := key xs h3
  exact ⟨l, h2, hok⟩

theorem tells_walk (H : Heap) (vs : List AVal) (h : WfArgs H [(false, .int .u8 .nil), (false, .int .u8 .nil), (false, .int .u8 .nil), (false, .int .u8 .nil), (true, .int .u64 (.int .u64 (.int .u64 (.int .u64 (.int .u64 (.int .u64 .nil)))))), (false, .slice (.int .u8 .nil) .nil)] vs) :
    ∃ n, isTrue (run ap n H.next 12 vs H) = true := by
  obtain ⟨a0, _, rfl, h0, a1, _, rfl, h1, a2, _, rfl, h2, a3, _, rfl, h3, a4, _, rfl, h4, a5, _, rfl, h5, rfl⟩ := h
  obtain ⟨a, rfl, ha⟩ := arg_u8 h0
  obtain ⟨b, rfl, hb⟩ := arg_u8 h1
  obtain ⟨w, rfl, hw⟩ := arg_u8 h2
  obtain ⟨x, rfl, hx⟩ := arg_u8 h3
  obtain ⟨marks, rfl, hk, _⟩ := wf_marks h4
  obtain ⟨l, hl, hlt⟩ := arg_nodes h5
  exact ⟨0 + 200, isTrue_of (tells12 ha hb hw hx hk hl hlt (Nat.le_refl _))⟩
end
end Go.Proofs.Ytpefhojmfcenfaa.conf
