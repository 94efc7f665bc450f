/- What List and Of come to, and one less. -/
import Derived.Test.YtpefhojmfcenfaaCgOps
import Derived.Test.YtpefhojmfcenfaaBhsW5
set_option maxRecDepth 100000
set_option linter.unusedVariables false
set_option linter.unusedSimpArgs false
namespace Go.Proofs.Ytpefhojmfcenfaa.conf
open Go.Ahs

/-- Bytes, as cells. -/
def u8s (l : List Nat) : List (List AVal) := l.map fun (n : Nat) => [.int .u8 (n : Int)]
theorem u8s_get {l : List Nat} {i : Nat} (h : i < l.length) : (u8s l)[i]? = some [.int .u8 (l[i] : Int)] := by simp [u8s, h]
theorem u8s_len (l : List Nat) : (u8s l).length = l.length := by simp [u8s]
theorem u8s_app (l : List Nat) (n : Nat) : u8s l ++ [[.int .u8 (n : Int)]] = u8s (l ++ [n]) := by simp [u8s]

def listN (m : Nat) : List Nat := (List.range' 1 5).filter (hasN m)
def ofN (l : List Nat) : Nat := l.foldl (fun a x => a ||| bitN x) 0

theorem ofN_lt (l : List Nat) : ofN l < 256 := by
  unfold ofN
  have : ∀ (l : List Nat) (a : Nat), a < 256 → l.foldl (fun a x => a ||| bitN x) a < 256 := by
    intro l
    induction l with
    | nil => intro a h; exact h
    | cons x xs ih => intro a h; exact ih _ (or_lt h (bitN_lt x))
  exact this l 0 (by omega)

section
variable {H : Heap} {n lim : Nat}

theorem list_loop {H0 : Heap} {m : Nat} (hm : m < 256) (hl : lim ≤ H0.next) {K : AVal → Heap → Prop} : ∀ (fuel j : Nat) (xs : List Nat) (v : AVal) (H : Heap), 7 ≤ fuel + j → 1 ≤ j → j ≤ 6 → xs.length < j → Fresh H0 H 1 v (u8s xs) →
    (∀ v' H', Fresh H0 H' 1 v' (u8s (xs ++ (List.range' j (6 - j)).filter (hasN m))) → K v' H') → F38_l0 (Ahs.runT ap (n + 2)) lim (n + 2) K fuel (.int .u8 (m : Int)) v (.int .u8 (j : Int)) H
  | 0, j, xs, v, H, h1, h2, h3, h4, hv, hK => by exfalso; omega
  | fuel + 1, j, xs, v, H, h1, h2, h3, h4, hv, hK => by
    show F38_s0 _ lim _ K (F38_l0 _ lim _ K fuel) _ v _ H
    unfold F38_s0
    by_cases hj : j ≤ 5
    · have hd : decide ((j : Int) ≤ 5) = true := dT (by omega)
      have hw : IntKind.u8.wrap ((j : Int) + 1) = ((j + 1 : Nat) : Int) := wrap_u8 (by omega) (by omega)
      have hr : List.range' j (6 - j) = j :: List.range' (j + 1) (6 - (j + 1)) := by
        rw [show 6 - j = (6 - (j + 1)) + 1 by omega, List.range'_succ]
      rw [hr, List.filter_cons] at hK
      cases hh : hasN m j with
      | true =>
        have hf : fillV [(.int .u8 0)] [(0, 1, .int .u8 (j : Int))] = some [.int .u8 (j : Int)] := rfl
        obtain ⟨v', H', e1, e2⟩ := hv.push1 (lim := lim) (bytes := 1) (zero := [.int .u8 0]) (x := [.int .u8 (j : Int)]) rfl (by omega) rfl rfl hl (by rw [u8s_len]; unfold room; omega) (by rw [u8s_len]; unfold room; omega)
        (repeat (first | (with_reducible apply bindP_intro; (focus (first | with_reducible rfl | (simp only [walkR, get0, getS, Nat.zero_add, Nat.add_zero, Bool.not_true, Bool.not_false, decide_true, decide_false, reduceIte, and_self, Bool.false_eq_true, hd, has43 (n := n) hm (show j < 256 by omega), hh, hf, e1] <;> with_reducible rfl)))) | (with_reducible apply bind2_intro; (focus (first | with_reducible rfl | (simp only [walkR, get0, getS, Nat.zero_add, Nat.add_zero, Bool.not_true, Bool.not_false, decide_true, decide_false, reduceIte, and_self, Bool.false_eq_true, hd, has43 (n := n) hm (show j < 256 by omega), hh, hf, e1] <;> with_reducible rfl)))) | with_reducible apply cond_t | with_reducible apply cond_f))
        unfold F38_j1
        (repeat (first | (with_reducible apply bindP_intro; (focus (first | with_reducible rfl | (simp only [walkR, get0, getS, Nat.zero_add, Nat.add_zero, Bool.not_true, Bool.not_false, decide_true, decide_false, reduceIte, and_self, Bool.false_eq_true, hw] <;> with_reducible rfl)))) | (with_reducible apply bind2_intro; (focus (first | with_reducible rfl | (simp only [walkR, get0, getS, Nat.zero_add, Nat.add_zero, Bool.not_true, Bool.not_false, decide_true, decide_false, reduceIte, and_self, Bool.false_eq_true, hw] <;> with_reducible rfl)))) | with_reducible apply cond_t | with_reducible apply cond_f))
        rw [u8s_app] at e2
        refine list_loop hm hl fuel (j + 1) (xs ++ [j]) v' H' (by omega) (by omega) (by omega) (by simp; omega) e2 ?_
        intro v2 H2 h
        rw [hh] at hK
        exact hK v2 H2 (by simpa using h)
      | false =>
        (repeat (first | (with_reducible apply bindP_intro; (focus (first | with_reducible rfl | (simp only [walkR, get0, getS, Nat.zero_add, Nat.add_zero, Bool.not_true, Bool.not_false, decide_true, decide_false, reduceIte, and_self, Bool.false_eq_true, hd, has43 (n := n) hm (show j < 256 by omega), hh] <;> with_reducible rfl)))) | (with_reducible apply bind2_intro; (focus (first | with_reducible rfl | (simp only [walkR, get0, getS, Nat.zero_add, Nat.add_zero, Bool.not_true, Bool.not_false, decide_true, decide_false, reduceIte, and_self, Bool.false_eq_true, hd, has43 (n := n) hm (show j < 256 by omega), hh] <;> with_reducible rfl)))) | with_reducible apply cond_t | with_reducible apply cond_f))
        unfold F38_j1
        (repeat (first | (with_reducible apply bindP_intro; (focus (first | with_reducible rfl | (simp only [walkR, get0, getS, Nat.zero_add, Nat.add_zero, Bool.not_true, Bool.not_false, decide_true, decide_false, reduceIte, and_self, Bool.false_eq_true, hw] <;> with_reducible rfl)))) | (with_reducible apply bind2_intro; (focus (first | with_reducible rfl | (simp only [walkR, get0, getS, Nat.zero_add, Nat.add_zero, Bool.not_true, Bool.not_false, decide_true, decide_false, reduceIte, and_self, Bool.false_eq_true, hw] <;> with_reducible rfl)))) | with_reducible apply cond_t | with_reducible apply cond_f))
        refine list_loop hm hl fuel (j + 1) xs v H (by omega) (by omega) (by omega) (by omega) hv ?_
        intro v2 H2 h
        rw [hh] at hK
        exact hK v2 H2 (by simpa using h)
    · have hd : decide ((j : Int) ≤ 5) = false := dF (by omega)
      (repeat (first | (with_reducible apply bindP_intro; (focus (first | with_reducible rfl | (simp only [walkR, get0, getS, Nat.zero_add, Nat.add_zero, Bool.not_true, Bool.not_false, decide_true, decide_false, reduceIte, and_self, Bool.false_eq_true, hd] <;> with_reducible rfl)))) | (with_reducible apply bind2_intro; (focus (first | with_reducible rfl | (simp only [walkR, get0, getS, Nat.zero_add, Nat.add_zero, Bool.not_true, Bool.not_false, decide_true, decide_false, reduceIte, and_self, Bool.false_eq_true, hd] <;> with_reducible rfl)))) | with_reducible apply cond_t | with_reducible apply cond_f))
      unfold F38_j0
      have : 6 - j = 0 := by omega
      rw [this] at hK
      exact hK v H (by simpa using hv)

theorem list38 {m : Nat} (hm : m < 256) (hl : lim ≤ H.next) (hn : 6 ≤ n) : ∃ v H', Ahs.runT ap (n + 3) lim (.fn 38) [.int .u8 (m : Int)] H = some (v, H') ∧ Fresh H H' 1 v (u8s (listN m)) := by
  refine F38_run (n := n + 2) a38 ?_
  unfold F38
  exact list_loop hm hl _ 1 [] _ H (by omega) (by omega) (by omega) (by simp) (Fresh.nil H 1) (fun v' H' h => h)

theorem of_loop {K : AVal → Heap → Prop} {v : AVal} {l : List Nat} (hv : Sl H 1 v (u8s l)) (hl : ∀ x ∈ l, x < 256) (hlen : l.length < 1000) : ∀ (fuel i a : Nat), l.length < fuel + i → i ≤ l.length → a < 256 →
    K (.int .u8 ((l.drop i).foldl (fun a x => a ||| bitN x) a : Nat)) H → F40_l0 (Ahs.runT ap (n + 1)) lim (n + 1) K fuel (.int .u8 (a : Int)) v (.int .i64 (l.length : Int)) (.int .i64 (i : Int)) H
  | 0, i, a, h1, h2, ha, hK => by exfalso; omega
  | fuel + 1, i, a, h1, h2, ha, hK => by
    show F40_s0 _ lim _ K (F40_l0 _ lim _ K fuel) _ v _ _ H
    unfold F40_s0
    by_cases hi : i < l.length
    · have hd : decide ((i : Int) < (l.length : Int)) = true := dT (by omega)
      have hx := hl l[i] (List.getElem_mem hi)
      rw [List.drop_eq_getElem_cons hi, List.foldl_cons] at hK
      (repeat (first | (with_reducible apply bindP_intro; (focus (first | with_reducible rfl | (simp only [walkR, get0, getS, Nat.zero_add, Nat.add_zero, Bool.not_true, Bool.not_false, decide_true, decide_false, reduceIte, and_self, Bool.false_eq_true, hd, hv.addr (i := i) (by rw [u8s_len]; exact hi), hv.load1 (u8s_get hi), bit71 (n := n) hx, abin_or, ior_u8 ha (bitN_lt l[i]), i64_succ (show i < 9223372036854775807 by omega)] <;> with_reducible rfl)))) | (with_reducible apply bind2_intro; (focus (first | with_reducible rfl | (simp only [walkR, get0, getS, Nat.zero_add, Nat.add_zero, Bool.not_true, Bool.not_false, decide_true, decide_false, reduceIte, and_self, Bool.false_eq_true, hd, hv.addr (i := i) (by rw [u8s_len]; exact hi), hv.load1 (u8s_get hi), bit71 (n := n) hx, abin_or, ior_u8 ha (bitN_lt l[i]), i64_succ (show i < 9223372036854775807 by omega)] <;> with_reducible rfl)))) | with_reducible apply cond_t | with_reducible apply cond_f))
      exact of_loop hv hl hlen fuel (i + 1) _ (by omega) (by omega) (or_lt ha (bitN_lt _)) hK
    · have hd : decide ((i : Int) < (l.length : Int)) = false := dF (by omega)
      (repeat (first | (with_reducible apply bindP_intro; (focus (first | with_reducible rfl | (simp only [walkR, get0, getS, Nat.zero_add, Nat.add_zero, Bool.not_true, Bool.not_false, decide_true, decide_false, reduceIte, and_self, Bool.false_eq_true, hd] <;> with_reducible rfl)))) | (with_reducible apply bind2_intro; (focus (first | with_reducible rfl | (simp only [walkR, get0, getS, Nat.zero_add, Nat.add_zero, Bool.not_true, Bool.not_false, decide_true, decide_false, reduceIte, and_self, Bool.false_eq_true, hd] <;> with_reducible rfl)))) | with_reducible apply cond_t | with_reducible apply cond_f))
      rw [List.drop_eq_nil_of_le (by omega)] at hK
      exact hK

theorem of40 {v : AVal} {l : List Nat} (hv : Sl H 1 v (u8s l)) (hl : ∀ x ∈ l, x < 256) (hlen : l.length < 1000) (hn : l.length ≤ n) : Ahs.runT ap (n + 2) lim (.fn 40) [v] H = some (.int .u8 (ofN l : Nat), H) := by
  refine run_eqn (F40_run (n := n + 1) a40 ?_)
  unfold F40
  have hlen' := hv.len
  rw [u8s_len] at hlen'
  (repeat (first | (with_reducible apply bindP_intro; (focus (first | with_reducible rfl | (simp only [walkR, get0, getS, Nat.zero_add, Nat.add_zero, Bool.not_true, Bool.not_false, decide_true, decide_false, reduceIte, and_self, Bool.false_eq_true, hlen'] <;> with_reducible rfl)))) | (with_reducible apply bind2_intro; (focus (first | with_reducible rfl | (simp only [walkR, get0, getS, Nat.zero_add, Nat.add_zero, Bool.not_true, Bool.not_false, decide_true, decide_false, reduceIte, and_self, Bool.false_eq_true, hlen'] <;> with_reducible rfl)))) | with_reducible apply cond_t | with_reducible apply cond_f))
  exact of_loop hv hl hlen _ 0 0 (by omega) (by omega) (by omega) ⟨rfl, rfl⟩

theorem iandNot_u8 {a b : Nat} (ha : a < 256) (hb : b < 256) : iandNot .u8 (a : Int) (b : Int) = ((a &&& (255 - b) : Nat) : Int) := by
  unfold iandNot bitsOp
  have hx : (BitVec.ofInt IntKind.u8.bits (a : Int) &&& ~~~ BitVec.ofInt IntKind.u8.bits (b : Int)).toNat = a &&& (255 - b) := by
    rw [ofInt_nat, ofInt_nat, BitVec.toNat_and, BitVec.toNat_not, BitVec.toNat_ofNat, BitVec.toNat_ofNat]
    show (a % 256) &&& (256 - 1 - b % 256) = _
    rw [Nat.mod_eq_of_lt ha, Nat.mod_eq_of_lt hb]
  rw [hx]
  exact wrap_u8 (by omega) (by have : a &&& (255 - b) ≤ a := Nat.and_le_left; omega)

theorem out49 {m x : Nat} (hm : m < 256) (hx : x < 256) : Ahs.runT ap (n + 3) lim (.fn 49) [.int .u8 (m : Int), .int .u8 (x : Int)] H = some (.tup [.int .u8 ((outN m x).1 : Int), .int .i64 ((outN m x).2 : Int)], H) := by
  refine run_eqn (F49_run (n := n + 2) a49 ?_)
  unfold F49 outN
  by_cases h1 : bitN x = 0
  · have d1 : ((bitN x : Int) == 0) = true := by rw [h1]; rfl
    (repeat (first | (with_reducible apply bindP_intro; (focus (first | with_reducible rfl | (simp only [walkR, get0, getS, Nat.zero_add, Nat.add_zero, Bool.not_true, Bool.not_false, decide_true, decide_false, reduceIte, and_self, Bool.false_eq_true, bit71 (n := n + 1) hx, d1] <;> with_reducible rfl)))) | (with_reducible apply bind2_intro; (focus (first | with_reducible rfl | (simp only [walkR, get0, getS, Nat.zero_add, Nat.add_zero, Bool.not_true, Bool.not_false, decide_true, decide_false, reduceIte, and_self, Bool.false_eq_true, bit71 (n := n + 1) hx, d1] <;> with_reducible rfl)))) | with_reducible apply cond_t | with_reducible apply cond_f))
    rw [if_pos h1]
    exact ⟨rfl, rfl⟩
  · have d1 : ((bitN x : Int) == 0) = false := by rw [Bool.eq_false_iff]; simp; omega
    rw [if_neg h1]
    cases h2 : hasN m x with
    | false =>
      (repeat (first | (with_reducible apply bindP_intro; (focus (first | with_reducible rfl | (simp only [walkR, get0, getS, Nat.zero_add, Nat.add_zero, Bool.not_true, Bool.not_false, decide_true, decide_false, reduceIte, and_self, Bool.false_eq_true, bit71 (n := n + 1) hx, d1, has43 (n := n) hm hx, h2] <;> with_reducible rfl)))) | (with_reducible apply bind2_intro; (focus (first | with_reducible rfl | (simp only [walkR, get0, getS, Nat.zero_add, Nat.add_zero, Bool.not_true, Bool.not_false, decide_true, decide_false, reduceIte, and_self, Bool.false_eq_true, bit71 (n := n + 1) hx, d1, has43 (n := n) hm hx, h2] <;> with_reducible rfl)))) | with_reducible apply cond_t | with_reducible apply cond_f))
      exact ⟨rfl, rfl⟩
    | true =>
      have hlt : m &&& (255 - bitN x) < 256 := Nat.lt_of_le_of_lt Nat.and_le_left hm
      (repeat (first | (with_reducible apply bindP_intro; (focus (first | with_reducible rfl | (simp only [walkR, get0, getS, Nat.zero_add, Nat.add_zero, Bool.not_true, Bool.not_false, decide_true, decide_false, reduceIte, and_self, Bool.false_eq_true, bit71 (n := n + 1) hx, d1, has43 (n := n) hm hx, h2, abin_andNot, iandNot_u8 hm (bitN_lt x), and31 hlt] <;> with_reducible rfl)))) | (with_reducible apply bind2_intro; (focus (first | with_reducible rfl | (simp only [walkR, get0, getS, Nat.zero_add, Nat.add_zero, Bool.not_true, Bool.not_false, decide_true, decide_false, reduceIte, and_self, Bool.false_eq_true, bit71 (n := n + 1) hx, d1, has43 (n := n) hm hx, h2, abin_andNot, iandNot_u8 hm (bitN_lt x), and31 hlt] <;> with_reducible rfl)))) | with_reducible apply cond_t | with_reducible apply cond_f))
      exact ⟨rfl, rfl⟩

end
end Go.Proofs.Ytpefhojmfcenfaa.conf
