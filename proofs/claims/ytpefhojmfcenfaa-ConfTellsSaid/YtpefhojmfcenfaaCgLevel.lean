/- What Level comes to. -/
import Derived.Test.YtpefhojmfcenfaaCgSort
set_option maxRecDepth 100000
set_option linter.unusedVariables false
set_option linter.unusedSimpArgs false
namespace Go.Proofs.Ytpefhojmfcenfaa.conf
open Go.Ahs

def geN (xs : List Nat) (x : Nat) : Nat := xs.countP fun y => decide (x ≤ y)
def gtN (xs : List Nat) (x : Nat) : Nat := xs.countP fun y => decide (x < y)

/-- What a majority has reached. -/
def LevelIs (xs : List Nat) (lv : Nat) : Prop := (xs = [] → lv = 0) ∧ (xs ≠ [] → lv ∈ xs ∧ xs.length < 2 * geN xs lv ∧ 2 * gtN xs lv ≤ xs.length)

theorem level_of {xs ys : List Nat} (hp : ys.Perm xs) (hs : UpTo ys xs.length) {k : Nat} (hk : k = (xs.length - 1) / 2) (h0 : xs ≠ []) : LevelIs xs (ys.getD k 0) := by
  have hl := hp.length_eq
  have hpos : 0 < xs.length := List.length_pos_iff.2 h0
  have hkl : k < ys.length := by omega
  refine ⟨fun e => absurd e h0, fun _ => ⟨?_, ?_, ?_⟩⟩
  · rw [getD_get hkl]
    exact hp.subset (List.getElem_mem hkl)
  · unfold geN
    rw [← hp.countP_eq, ← List.take_append_drop k ys, List.countP_append]
    have : (ys.drop k).countP (fun y => decide (ys.getD k 0 ≤ y)) = (ys.drop k).length := by
      rw [List.countP_eq_length]
      intro y hy
      obtain ⟨i, hi, rfl⟩ := List.getElem_of_mem hy
      rw [List.getElem_drop]
      rw [List.length_drop] at hi
      have hki : k + i < ys.length := by omega
      rw [← getD_get hki, decide_eq_true_iff]
      rcases Nat.eq_zero_or_pos i with rfl | h
      · exact Nat.le_refl _
      · exact hs k (k + i) (by omega) (by omega)
    rw [List.take_append_drop, this, List.length_drop]
    omega
  · unfold gtN
    rw [← hp.countP_eq, ← List.take_append_drop (k + 1) ys, List.countP_append]
    have : (ys.take (k + 1)).countP (fun y => decide (ys.getD k 0 < y)) = 0 := by
      rw [List.countP_eq_zero]
      intro y hy
      obtain ⟨i, hi, rfl⟩ := List.getElem_of_mem hy
      rw [List.getElem_take]
      rw [List.length_take] at hi
      have hii : i < ys.length := by omega
      rw [← getD_get hii, decide_eq_true_iff]
      rcases Nat.lt_or_ge i k with h | h
      · have := hs i k h (by omega); omega
      · have : i = k := by omega
        subst this; omega
    rw [List.take_append_drop, this]
    have := List.countP_le_length (p := fun y => decide (ys.getD k 0 < y)) (l := ys.drop (k + 1))
    rw [List.length_drop] at this
    omega

def mk (marks : List Nat) : List AVal := marks.map fun (a : Nat) => .int .u64 (a : Int)
theorem mk_one (marks : List Nat) : (mk marks).all (·.one) = true := by
  rw [List.all_eq_true]
  intro x hx
  obtain ⟨a, _, rfl⟩ := List.mem_map.1 hx
  rfl
theorem mk_get {marks : List Nat} {i : Nat} (h : i < marks.length) : (mk marks)[i]? = some (.int .u64 (marks.getD i 0 : Nat)) := by simp [mk, h]

def marksOf (marks : List Nat) (m : Nat) : List Nat := (listN m).map fun x => marks.getD x 0

section
variable {n lim : Nat}

theorem level_end {H0 H : Heap} {v : AVal} {xs : List Nat} (hv : Fresh H0 H 1 v (u64s xs)) (hl : lim ≤ H0.next) (hlen : xs.length ≤ 12) (hn : 12 ≤ n) {K : AVal → Heap → Prop}
    (hK : ∀ lv H', LevelIs xs lv → Keeps2 H0 H' → K (.int .u64 (lv : Nat)) H') : F37_j0 (Ahs.runT ap (n + 6)) lim (n + 6) K v H := by
  unfold F37_j0
  have hlen' := hv.sl.len
  rw [u64s_len] at hlen'
  by_cases h0 : xs.length = 0
  · have hd : ((xs.length : Int) == 0) = true := by rw [h0]; rfl
    (repeat (first | (with_reducible apply bindP_intro; (focus (first | with_reducible rfl | (simp only [walkR, get0, getS, Nat.zero_add, Nat.add_zero, Bool.not_true, Bool.not_false, decide_true, decide_false, reduceIte, and_self, Bool.false_eq_true, hlen', hd] <;> with_reducible rfl)))) | (with_reducible apply bind2_intro; (focus (first | with_reducible rfl | (simp only [walkR, get0, getS, Nat.zero_add, Nat.add_zero, Bool.not_true, Bool.not_false, decide_true, decide_false, reduceIte, and_self, Bool.false_eq_true, hlen', hd] <;> with_reducible rfl)))) | with_reducible apply cond_t | with_reducible apply cond_f))
    exact hK 0 H ⟨fun _ => rfl, fun h => absurd (List.length_eq_zero_iff.1 h0) h⟩ hv.keeps
  · have hd : ((xs.length : Int) == 0) = false := by rw [Bool.eq_false_iff]; simp; intro e; exact h0 (by rw [e]; rfl)
    obtain ⟨r, H1, e1, rfl, ys, hp, hs, hf⟩ := sort70 (n := n) (lim := lim) hv hl hlen hn
    have hw : IntKind.i64.wrap ((xs.length : Int) - 1) = ((xs.length - 1 : Nat) : Int) := by rw [wrap_i64 (by omega) (by omega)]; omega
    have hq : abin .quo (.int .i64 ((xs.length - 1 : Nat) : Int)) (.int .i64 2) = some (.int .i64 (((xs.length - 1) / 2 : Nat) : Int)) := by
      rw [abin_quo _ _ _ (by decide)]
      have : ((xs.length - 1 : Nat) : Int).tdiv 2 = (((xs.length - 1) / 2 : Nat) : Int) := rfl
      rw [this, wrap_i64 (by omega) (by omega)]
    have hkl : (xs.length - 1) / 2 < ys.length := by rw [hp.length_eq]; omega
    (repeat (first | (with_reducible apply bindP_intro; (focus (first | with_reducible rfl | (simp only [walkR, get0, getS, Nat.zero_add, Nat.add_zero, Bool.not_true, Bool.not_false, decide_true, decide_false, reduceIte, and_self, Bool.false_eq_true, hlen', hd, e1, hw, hq, hf.sl.addr (k := .i64) (i := (xs.length - 1) / 2) (by rw [u64s_len]; exact hkl), hf.sl.load1 (u64s_get hkl)] <;> with_reducible rfl)))) | (with_reducible apply bind2_intro; (focus (first | with_reducible rfl | (simp only [walkR, get0, getS, Nat.zero_add, Nat.add_zero, Bool.not_true, Bool.not_false, decide_true, decide_false, reduceIte, and_self, Bool.false_eq_true, hlen', hd, e1, hw, hq, hf.sl.addr (k := .i64) (i := (xs.length - 1) / 2) (by rw [u64s_len]; exact hkl), hf.sl.load1 (u64s_get hkl)] <;> with_reducible rfl)))) | with_reducible apply cond_t | with_reducible apply cond_f))
    rw [← getD_get hkl]
    exact hK _ H1 (level_of hp hs rfl (fun e => h0 (by rw [e]; rfl))) hf.keeps

theorem level_loop {H0 : Heap} {b : Nat} {marks l : List Nat} {vl : AVal} (hb : H0.cells b = some (mk marks)) (hm : marks.length = 6) (hvl : Sl H0 1 vl (u8s l)) (hlt : ∀ x ∈ l, x < 6) (hl : lim ≤ H0.next) (hlen : l.length ≤ 12) (hn : 12 ≤ n) {K : AVal → Heap → Prop}
    (hK : ∀ lv H', LevelIs (l.map fun x => marks.getD x 0) lv → Keeps2 H0 H' → K (.int .u64 (lv : Nat)) H') : ∀ (fuel i : Nat) (v : AVal) (H : Heap), l.length < fuel + i → i ≤ l.length → Fresh H0 H 1 v (u64s ((l.take i).map fun x => marks.getD x 0)) →
    F37_l0 (Ahs.runT ap (n + 6)) lim (n + 6) K fuel (.ptr (some (b, 0))) v vl (.int .i64 (l.length : Int)) (.int .i64 (i : Int)) H
  | 0, i, v, H, h1, h2, hv => by exfalso; omega
  | fuel + 1, i, v, H, h1, h2, hv => by
    show F37_s0 _ lim _ K (F37_l0 _ lim _ K fuel) _ v vl _ _ H
    unfold F37_s0
    by_cases hi : i < l.length
    · have hd : decide ((i : Int) < (l.length : Int)) = true := dT (by omega)
      have hsl := hvl.keep hv.keeps
      have hx := hlt l[i] (List.getElem_mem hi)
      have ha : aindexAddr (some 6) 1 (.ptr (some (b, 0))) (.int .u8 (l[i] : Int)) = some (.ptr (some (b, l[i] * 1))) := by simp only [aindexAddr, natOf_nat, hx, if_true, Nat.zero_add]
      have hld : aload H none (.ptr (some (b, l[i] * 1))) = some (.int .u64 (marks.getD l[i] 0 : Nat)) := by rw [aload_one (hv.keeps.cells hb), Nat.mul_one, mk_get (by omega)]
      have hf : fillV [(.int .u64 0)] [(0, 1, .int .u64 (marks.getD l[i] 0 : Nat))] = some [.int .u64 (marks.getD l[i] 0 : Nat)] := rfl
      obtain ⟨v', H', e1, e2⟩ := hv.push1 (lim := lim) (bytes := 8) (zero := [.int .u64 0]) (x := [.int .u64 (marks.getD l[i] 0 : Nat)]) rfl (by omega) rfl rfl hl (by rw [u64s_len]; simp; unfold room; omega) (by rw [u64s_len]; simp; unfold room; omega)
      (repeat (first | (with_reducible apply bindP_intro; (focus (first | with_reducible rfl | (simp only [walkR, get0, getS, Nat.zero_add, Nat.add_zero, Bool.not_true, Bool.not_false, decide_true, decide_false, reduceIte, and_self, Bool.false_eq_true, hd, hsl.addr (k := .i64) (i := i) (by rw [u8s_len]; exact hi), hsl.load1 (u8s_get hi), ha, hld, hf, e1, i64_succ (show i < 9223372036854775807 by omega)] <;> with_reducible rfl)))) | (with_reducible apply bind2_intro; (focus (first | with_reducible rfl | (simp only [walkR, get0, getS, Nat.zero_add, Nat.add_zero, Bool.not_true, Bool.not_false, decide_true, decide_false, reduceIte, and_self, Bool.false_eq_true, hd, hsl.addr (k := .i64) (i := i) (by rw [u8s_len]; exact hi), hsl.load1 (u8s_get hi), ha, hld, hf, e1, i64_succ (show i < 9223372036854775807 by omega)] <;> with_reducible rfl)))) | with_reducible apply cond_t | with_reducible apply cond_f))
      refine level_loop hb hm hvl hlt hl hlen hn hK fuel (i + 1) v' H' (by omega) (by omega) ?_
      rw [u64s_app] at e2
      have : (l.take i).map (fun x => marks.getD x 0) ++ [marks.getD l[i] 0] = (l.take (i + 1)).map fun x => marks.getD x 0 := by
        rw [List.take_succ_eq_append_getElem hi, List.map_append]; rfl
      rw [← this]; exact e2
    · have hd : decide ((i : Int) < (l.length : Int)) = false := dF (by omega)
      (repeat (first | (with_reducible apply bindP_intro; (focus (first | with_reducible rfl | (simp only [walkR, get0, getS, Nat.zero_add, Nat.add_zero, Bool.not_true, Bool.not_false, decide_true, decide_false, reduceIte, and_self, Bool.false_eq_true, hd] <;> with_reducible rfl)))) | (with_reducible apply bind2_intro; (focus (first | with_reducible rfl | (simp only [walkR, get0, getS, Nat.zero_add, Nat.add_zero, Bool.not_true, Bool.not_false, decide_true, decide_false, reduceIte, and_self, Bool.false_eq_true, hd] <;> with_reducible rfl)))) | with_reducible apply cond_t | with_reducible apply cond_f))
      rw [List.take_of_length_le (by omega)] at hv
      exact level_end hv hl (by simpa using hlen) hn hK

theorem list_lt6 (m : Nat) : ∀ x ∈ listN m, x < 6 := by
  intro x hx
  have := (List.mem_filter.1 hx).1
  rw [List.mem_range'] at this
  omega

theorem level37 {H : Heap} {m : Nat} {marks : List Nat} (hm : m < 256) (hk : marks.length = 6) (hl : lim ≤ H.next) (hn : 12 ≤ n) :
    ∃ r H', Ahs.runT ap (n + 7) lim (.fn 37) [.int .u8 (m : Int), .agg (mk marks)] H = some (r, H') ∧ ∃ lv : Nat, r = .int .u64 (lv : Int) ∧ LevelIs (marksOf marks m) lv ∧ Keeps2 H H' := by
  refine F37_run (n := n + 6) a37 ?_
  unfold F37
  have hbox : (if (AVal.agg (mk marks)).cells.all (·.one) then some (AVal.ptr (some (H.next, 0)), H.push (.cells (AVal.agg (mk marks)).cells)) else none) = some (AVal.ptr (some (H.next, 0)), H.push (.cells (mk marks))) := by
    have : (AVal.agg (mk marks)).cells = mk marks := rfl
    rw [this, mk_one, if_pos rfl]
  obtain ⟨l, H1, e1, e2⟩ := list38 (n := n + 3) (H := H.push (.cells (mk marks))) (lim := lim) hm (by rw [Heap.next_push]; omega) (by omega)
  have hlen := e2.sl.len
  rw [u8s_len] at hlen
  refine bind2_intro hbox ?_
  (repeat (first | (with_reducible apply bindP_intro; (focus (first | with_reducible rfl | (simp only [walkR, get0, getS, Nat.zero_add, Nat.add_zero, Bool.not_true, Bool.not_false, decide_true, decide_false, reduceIte, and_self, Bool.false_eq_true, e1, hlen] <;> with_reducible rfl)))) | (with_reducible apply bind2_intro; (focus (first | with_reducible rfl | (simp only [walkR, get0, getS, Nat.zero_add, Nat.add_zero, Bool.not_true, Bool.not_false, decide_true, decide_false, reduceIte, and_self, Bool.false_eq_true, e1, hlen] <;> with_reducible rfl)))) | with_reducible apply cond_t | with_reducible apply cond_f))
  refine level_loop (H0 := H1) (e2.keeps.cells (cells_push_new H _)) hk e2.sl (list_lt6 m) (by have := e2.keeps.next; rw [Heap.next_push] at this; omega) (by have := list_len m; omega) hn ?_ _ 0 _ H1 (by have := list_len m; omega) (by omega) (Fresh.nil H1 1)
  intro lv H' h1 h2
  exact ⟨lv, rfl, h1, ((Keeps2.push H _).trans e2.keeps).trans h2⟩

end
end Go.Proofs.Ytpefhojmfcenfaa.conf
