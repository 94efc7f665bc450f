/- ConfLevels. -/
import Derived.Test.YtpefhojmfcenfaaCgLevel
set_option maxRecDepth 100000
set_option linter.unusedVariables false
set_option linter.unusedSimpArgs false
namespace Go.Proofs.Ytpefhojmfcenfaa.conf
open Go.Ahs

/-! ## Numbers -/

def maskFrom (p : Nat → Bool) (j a : Nat) : Nat := (List.range' j (6 - j)).foldl (fun a x => if p x = true then a ||| bitN x else a) a

theorem maskFrom_lt (p : Nat → Bool) (j : Nat) {a : Nat} (ha : a < 256) : maskFrom p j a < 256 := by
  unfold maskFrom
  have : ∀ (l : List Nat) (a : Nat), a < 256 → l.foldl (fun a x => if p x = true then a ||| bitN x else a) a < 256 := by
    intro l
    induction l with
    | nil => intro a h; exact h
    | cons x xs ih =>
      intro a h
      rw [List.foldl_cons]
      refine ih _ ?_
      split
      · exact or_lt h (bitN_lt x)
      · exact h
  exact this _ _ ha

theorem mask_has (p : Nat → Bool) {x : Nat} (h1 : 1 ≤ x) (h2 : x ≤ 5) : hasN (maskFrom p 1 0) x = p x := by
  have e : maskFrom p 1 0 = (List.range' 1 5).foldl (fun a x => if p x = true then a ||| bitN x else a) 0 := rfl
  have hr : List.range' 1 5 = [1, 2, 3, 4, 5] := rfl
  rw [e, hr]
  simp only [List.foldl_cons, List.foldl_nil]
  have hx : x = 1 ∨ x = 2 ∨ x = 3 ∨ x = 4 ∨ x = 5 := by omega
  cases g1 : p 1 <;> cases g2 : p 2 <;> cases g3 : p 3 <;> cases g4 : p 4 <;> cases g5 : p 5 <;>
    (rcases hx with rfl | rfl | rfl | rfl | rfl <;> simp only [g1, g2, g3, g4, g5, if_true, if_false, Bool.false_eq_true] <;> rfl)

theorem won_count (m : Nat) (P : Nat) : wonN m P = decide ((listN m).length < 2 * (listN m).countP (hasN P)) := by
  have h31 : ∀ a x, hasN a x = hasN (a &&& 31) x := by
    intro a x
    unfold hasN
    have : 31 &&& bitN x = bitN x := by
      obtain ⟨y, hy, hb⟩ := bit_small x
      rw [hb]
      have := allBelow_get (p := fun y => (31 &&& bitN y) == bitN y) (n := 7) (by kernel_rfl) y hy
      simpa using this
    rw [Nat.and_assoc, this]
  have e1 : listN m = listN (m &&& 31) := by
    unfold listN
    congr 1
    funext x
    exact h31 m x
  have e2 : hasN P = hasN (P &&& 31) := by funext x; exact h31 P x
  have c := allBelow_get (allBelow_get (p := fun m => allBelow (fun P => wonN m P == decide ((listN m).length < 2 * (listN m).countP (hasN P))) 32) (n := 32) (by kernel_rfl) _ (lt32 m)) _ (lt32 P)
  rw [won31, e1, e2]
  exact beq_iff_eq.1 c

theorem list_range {m x : Nat} (h : x ∈ listN m) : 1 ≤ x ∧ x ≤ 5 := by
  have := (List.mem_filter.1 h).1
  rw [List.mem_range'] at this
  omega

theorem won_mask (m : Nat) (p : Nat → Bool) : wonN m (maskFrom p 1 0) = decide ((listN m).length < 2 * (listN m).countP p) := by
  rw [won_count]
  have : (listN m).countP (hasN (maskFrom p 1 0)) = (listN m).countP p := by
    refine List.countP_congr fun x hx => ?_
    obtain ⟨h1, h2⟩ := list_range hx
    rw [mask_has p h1 h2]
  rw [this]

theorem ge_count (marks : List Nat) (m lv : Nat) : geN (marksOf marks m) lv = (listN m).countP fun x => decide (lv ≤ marks.getD x 0) := by
  unfold geN marksOf
  rw [List.countP_map]; rfl
theorem gt_count (marks : List Nat) (m lv : Nat) : gtN (marksOf marks m) lv = (listN m).countP fun x => decide (lv < marks.getD x 0) := by
  unfold gtN marksOf
  rw [List.countP_map]; rfl

theorem level_mono {marks marks' : List Nat} {m lv lv' : Nat} (h : LevelIs (marksOf marks m) lv) (h' : LevelIs (marksOf marks' m) lv') (hle : ∀ x, marks.getD x 0 ≤ marks'.getD x 0) : lv ≤ lv' := by
  by_cases h0 : listN m = []
  · have e : marksOf marks m = [] := by unfold marksOf; rw [h0]; rfl
    rw [h.1 e]; omega
  · have l1 : (marksOf marks m).length = (listN m).length := by simp [marksOf]
    have l2 : (marksOf marks' m).length = (listN m).length := by simp [marksOf]
    have n1 : marksOf marks m ≠ [] := fun e => h0 (by have := l1; rw [e] at this; exact List.length_eq_zero_iff.1 this.symm)
    have n2 : marksOf marks' m ≠ [] := fun e => h0 (by have := l2; rw [e] at this; exact List.length_eq_zero_iff.1 this.symm)
    obtain ⟨_, a2, _⟩ := h.2 n1
    obtain ⟨_, _, b3⟩ := h'.2 n2
    rcases Nat.lt_or_ge lv' lv with g | g
    · exfalso
      have : geN (marksOf marks m) lv ≤ gtN (marksOf marks' m) lv' := by
        rw [ge_count, gt_count]
        refine List.countP_mono_left fun x _ hx => ?_
        rw [decide_eq_true_iff] at hx ⊢
        have := hle x
        omega
      omega
    · exact g

/-! ## The statement -/

section
variable {n lim : Nat}

theorem bits_one {H : Heap} {x : Nat} (hx : x < 256) : Ahs.runT ap (n + 3) lim (.fn 40) [.sl (some (H.next, 0)) 1 (.ex 1)] (H.push (.cells [.int .u8 (x : Int)])) = some (.int .u8 (bitN x : Nat), H.push (.cells [.int .u8 (x : Int)])) := by
  have hs : Sl (H.push (.cells [.int .u8 (x : Int)])) 1 (.sl (some (H.next, 0)) 1 (.ex 1)) (u8s [x]) := sl_one rfl
  have ho := of40 (n := n + 1) (lim := lim) hs (fun y hy => by simp at hy; omega) (by simp) (by simp)
  have hof : ofN [x] = bitN x := by simp [ofN]
  rw [hof] at ho
  exact ho

theorem addr6 {b k : Nat} {kd : IntKind} (hk : k < 6) : aindexAddr (some 6) 1 (.ptr (some (b, 0))) (.int kd (k : Int)) = some (.ptr (some (b, k * 1))) := by
  simp only [aindexAddr, natOf_nat, hk, if_true, Nat.zero_add]
theorem load6 {H : Heap} {b k : Nat} {marks : List Nat} (hb : H.cells b = some (mk marks)) (hm : marks.length = 6) (hk : k < 6) : aload H none (.ptr (some (b, k * 1))) = some (.int .u64 (marks.getD k 0 : Nat)) := by
  rw [aload_one hb, Nat.mul_one, mk_get (by omega)]

theorem levels_loop {b m x more lv : Nat} {marks : List Nat} (hm : marks.length = 6) {K : AVal → Heap → Prop} {H0 : Heap} (hb : H0.cells b = some (mk marks)) :
    ∀ (fuel j : Nat) (a c : Nat) (H : Heap), 7 ≤ fuel + j → 1 ≤ j → j ≤ 6 → a < 256 → c < 256 → Keeps2 H0 H →
    (∀ H', Keeps2 H0 H' → F10_j0 (Ahs.runT ap (n + 3)) lim (n + 3) K (.int .u8 (m : Int)) (.int .u8 (x : Int)) (.int .u64 (more : Int)) (.ptr (some (b, 0))) (.int .u64 (lv : Int))
      (.int .u8 (maskFrom (fun x => decide (lv ≤ marks.getD x 0)) j a : Nat)) (.int .u8 (maskFrom (fun x => decide (lv < marks.getD x 0)) j c : Nat)) H') →
    F10_l0 (Ahs.runT ap (n + 3)) lim (n + 3) K fuel (.int .u8 (m : Int)) (.int .u8 (x : Int)) (.int .u64 (more : Int)) (.ptr (some (b, 0))) (.int .u64 (lv : Int)) (.int .u8 (a : Int)) (.int .u8 (c : Int)) (.int .u8 (j : Int)) H
  | 0, j, a, c, H, h1, h2, h3, h4, h5, hk, hK => by exfalso; omega
  | fuel + 1, j, a, c, H, h1, h2, h3, h4, h5, hk, hK => by
    show F10_s0 _ lim _ K (F10_l0 _ lim _ K fuel) _ _ _ _ _ _ _ _ H
    unfold F10_s0
    by_cases hj : j ≤ 5
    · have hd : decide ((j : Int) ≤ 5) = true := dT (by omega)
      have hw : IntKind.u8.wrap ((j : Int) + 1) = ((j + 1 : Nat) : Int) := wrap_u8 (by omega) (by omega)
      have hr : List.range' j (6 - j) = j :: List.range' (j + 1) (6 - (j + 1)) := by
        rw [show 6 - j = (6 - (j + 1)) + 1 by omega, List.range'_succ]
      have hj6 : j < 6 := by omega
      have hf : fillV [(.int .u8 0)] [(0, 1, .int .u8 (j : Int))] = some [.int .u8 (j : Int)] := rfl
      have mf : ∀ (p : Nat → Bool) (a : Nat), maskFrom p j a = maskFrom p (j + 1) (if p j = true then a ||| bitN j else a) := by
        intro p a
        unfold maskFrom
        rw [hr, List.foldl_cons]
      rw [mf, mf] at hK
      -- the second half of a round
      have second : ∀ (a' : Nat) (H1 : Heap), a' < 256 → Keeps2 H0 H1 → (a' = if decide (lv ≤ marks.getD j 0) = true then a ||| bitN j else a) →
          F10_j2 (Ahs.runT ap (n + 3)) lim (n + 3) K (F10_l0 (Ahs.runT ap (n + 3)) lim (n + 3) K fuel) (.int .u8 (m : Int)) (.int .u8 (x : Int)) (.int .u64 (more : Int)) (.ptr (some (b, 0))) (.int .u64 (lv : Int)) (.int .u8 (a' : Int)) (.int .u8 (c : Int)) (.int .u8 (j : Int)) H1 := by
        intro a' H1 ha' hk1 ea
        unfold F10_j2
        by_cases g : lv < marks.getD j 0
        · have gd' : decide ((lv : Int) < ((marks.getD j 0 : Nat) : Int)) = true := dT (by omega)
          (repeat (first | (with_reducible apply bindP_intro; (focus (first | with_reducible rfl | (simp only [walkR, get0, getS, Nat.zero_add, Nat.add_zero, Bool.not_true, Bool.not_false, decide_true, decide_false, reduceIte, and_self, Bool.false_eq_true, addr6 (b := b) (kd := .u8) hj6, load6 (hk1.cells hb) hm hj6, gd', hf, bits_one (n := n) (lim := lim) (H := H1) (show j < 256 by omega), abin_or, ior_u8 h5 (bitN_lt j)] <;> with_reducible rfl)))) | (with_reducible apply bind2_intro; (focus (first | with_reducible rfl | (simp only [walkR, get0, getS, Nat.zero_add, Nat.add_zero, Bool.not_true, Bool.not_false, decide_true, decide_false, reduceIte, and_self, Bool.false_eq_true, addr6 (b := b) (kd := .u8) hj6, load6 (hk1.cells hb) hm hj6, gd', hf, bits_one (n := n) (lim := lim) (H := H1) (show j < 256 by omega), abin_or, ior_u8 h5 (bitN_lt j)] <;> with_reducible rfl)))) | with_reducible apply cond_t | with_reducible apply cond_f))
          unfold F10_j1
          (repeat (first | (with_reducible apply bindP_intro; (focus (first | with_reducible rfl | (simp only [walkR, get0, getS, Nat.zero_add, Nat.add_zero, Bool.not_true, Bool.not_false, decide_true, decide_false, reduceIte, and_self, Bool.false_eq_true, hw] <;> with_reducible rfl)))) | (with_reducible apply bind2_intro; (focus (first | with_reducible rfl | (simp only [walkR, get0, getS, Nat.zero_add, Nat.add_zero, Bool.not_true, Bool.not_false, decide_true, decide_false, reduceIte, and_self, Bool.false_eq_true, hw] <;> with_reducible rfl)))) | with_reducible apply cond_t | with_reducible apply cond_f))
          refine levels_loop hm hb fuel (j + 1) a' (c ||| bitN j) _ (by omega) (by omega) (by omega) ha' (or_lt h5 (bitN_lt j)) (hk1.trans (.push _ _)) ?_
          intro H' hk'
          have := hK H' hk'
          rw [← ea, if_pos (by simpa using g)] at this
          exact this
        · have gd' : decide ((lv : Int) < ((marks.getD j 0 : Nat) : Int)) = false := dF (by omega)
          (repeat (first | (with_reducible apply bindP_intro; (focus (first | with_reducible rfl | (simp only [walkR, get0, getS, Nat.zero_add, Nat.add_zero, Bool.not_true, Bool.not_false, decide_true, decide_false, reduceIte, and_self, Bool.false_eq_true, addr6 (b := b) (kd := .u8) hj6, load6 (hk1.cells hb) hm hj6, gd'] <;> with_reducible rfl)))) | (with_reducible apply bind2_intro; (focus (first | with_reducible rfl | (simp only [walkR, get0, getS, Nat.zero_add, Nat.add_zero, Bool.not_true, Bool.not_false, decide_true, decide_false, reduceIte, and_self, Bool.false_eq_true, addr6 (b := b) (kd := .u8) hj6, load6 (hk1.cells hb) hm hj6, gd'] <;> with_reducible rfl)))) | with_reducible apply cond_t | with_reducible apply cond_f))
          unfold F10_j1
          (repeat (first | (with_reducible apply bindP_intro; (focus (first | with_reducible rfl | (simp only [walkR, get0, getS, Nat.zero_add, Nat.add_zero, Bool.not_true, Bool.not_false, decide_true, decide_false, reduceIte, and_self, Bool.false_eq_true, hw] <;> with_reducible rfl)))) | (with_reducible apply bind2_intro; (focus (first | with_reducible rfl | (simp only [walkR, get0, getS, Nat.zero_add, Nat.add_zero, Bool.not_true, Bool.not_false, decide_true, decide_false, reduceIte, and_self, Bool.false_eq_true, hw] <;> with_reducible rfl)))) | with_reducible apply cond_t | with_reducible apply cond_f))
          refine levels_loop hm hb fuel (j + 1) a' c _ (by omega) (by omega) (by omega) ha' h5 hk1 ?_
          intro H' hk'
          have := hK H' hk'
          rw [← ea, if_neg (by simpa using g)] at this
          exact this
      by_cases g : lv ≤ marks.getD j 0
      · have gd' : decide ((lv : Int) ≤ ((marks.getD j 0 : Nat) : Int)) = true := dT (by omega)
        (repeat (first | (with_reducible apply bindP_intro; (focus (first | with_reducible rfl | (simp only [walkR, get0, getS, Nat.zero_add, Nat.add_zero, Bool.not_true, Bool.not_false, decide_true, decide_false, reduceIte, and_self, Bool.false_eq_true, hd, addr6 (b := b) (kd := .u8) hj6, load6 (hk.cells hb) hm hj6, gd', hf, bits_one (n := n) (lim := lim) (H := H) (show j < 256 by omega), abin_or, ior_u8 h4 (bitN_lt j)] <;> with_reducible rfl)))) | (with_reducible apply bind2_intro; (focus (first | with_reducible rfl | (simp only [walkR, get0, getS, Nat.zero_add, Nat.add_zero, Bool.not_true, Bool.not_false, decide_true, decide_false, reduceIte, and_self, Bool.false_eq_true, hd, addr6 (b := b) (kd := .u8) hj6, load6 (hk.cells hb) hm hj6, gd', hf, bits_one (n := n) (lim := lim) (H := H) (show j < 256 by omega), abin_or, ior_u8 h4 (bitN_lt j)] <;> with_reducible rfl)))) | with_reducible apply cond_t | with_reducible apply cond_f))
        exact second _ _ (or_lt h4 (bitN_lt j)) (hk.trans (.push _ _)) (by rw [if_pos (by simpa using g)])
      · have gd' : decide ((lv : Int) ≤ ((marks.getD j 0 : Nat) : Int)) = false := dF (by omega)
        (repeat (first | (with_reducible apply bindP_intro; (focus (first | with_reducible rfl | (simp only [walkR, get0, getS, Nat.zero_add, Nat.add_zero, Bool.not_true, Bool.not_false, decide_true, decide_false, reduceIte, and_self, Bool.false_eq_true, hd, addr6 (b := b) (kd := .u8) hj6, load6 (hk.cells hb) hm hj6, gd'] <;> with_reducible rfl)))) | (with_reducible apply bind2_intro; (focus (first | with_reducible rfl | (simp only [walkR, get0, getS, Nat.zero_add, Nat.add_zero, Bool.not_true, Bool.not_false, decide_true, decide_false, reduceIte, and_self, Bool.false_eq_true, hd, addr6 (b := b) (kd := .u8) hj6, load6 (hk.cells hb) hm hj6, gd'] <;> with_reducible rfl)))) | with_reducible apply cond_t | with_reducible apply cond_f))
        exact second _ _ h4 hk (by rw [if_neg (by simpa using g)])
    · have hd : decide ((j : Int) ≤ 5) = false := dF (by omega)
      (repeat (first | (with_reducible apply bindP_intro; (focus (first | with_reducible rfl | (simp only [walkR, get0, getS, Nat.zero_add, Nat.add_zero, Bool.not_true, Bool.not_false, decide_true, decide_false, reduceIte, and_self, Bool.false_eq_true, hd] <;> with_reducible rfl)))) | (with_reducible apply bind2_intro; (focus (first | with_reducible rfl | (simp only [walkR, get0, getS, Nat.zero_add, Nat.add_zero, Bool.not_true, Bool.not_false, decide_true, decide_false, reduceIte, and_self, Bool.false_eq_true, hd] <;> with_reducible rfl)))) | with_reducible apply cond_t | with_reducible apply cond_f))
      have e : 6 - j = 0 := by omega
      have := hK H hk
      unfold maskFrom at this
      rw [e] at this
      exact this

theorem mk_set (marks : List Nat) (k a : Nat) : (mk marks).set k (.int .u64 (a : Int)) = mk (marks.set k a) := by simp [mk, List.map_set]

theorem levels10 {H : Heap} {m x more : Nat} {marks : List Nat} (hm : m < 256) (hx : x < 256) (hk : marks.length = 6) (hl : lim ≤ H.next) :
    ∃ r H', Ahs.runT ap (n + 30) lim (.fn 10) [.int .u8 (m : Int), .agg (mk marks), .int .u8 (x : Int), .int .u64 (more : Int)] H = some (r, H') ∧ r = .bool true := by
  refine F10_run (n := n + 29) (K := fun r _ => r = .bool true) a10 ?_
  unfold F10
  have hbox : (if (AVal.agg (mk marks)).cells.all (·.one) then some (AVal.ptr (some (H.next, 0)), H.push (.cells (AVal.agg (mk marks)).cells)) else none) = some (AVal.ptr (some (H.next, 0)), H.push (.cells (mk marks))) := by
    have : (AVal.agg (mk marks)).cells = mk marks := rfl
    rw [this, mk_one, if_pos rfl]
  refine bind2_intro hbox ?_
  have hml : (mk marks).length = 6 := by simp [mk, hk]
  obtain ⟨_, H1, e1, lv, rfl, hlv, k1⟩ := level37 (n := n + 22) (H := H.push (.cells (mk marks))) (lim := lim) hm hk (by rw [Heap.next_push]; omega) (by omega)
  obtain ⟨l, H2, e2, f2⟩ := list38 (n := n + 26) (H := H1) (lim := lim) hm (by have := k1.next; rw [Heap.next_push] at this; omega) (by omega)
  have hlen := f2.sl.len
  rw [u8s_len] at hlen
  have kA : Keeps2 (H.push (.cells (mk marks))) H2 := k1.trans f2.keeps
  by_cases h0 : (listN m).length = 0
  · have hd : (((listN m).length : Int) == 0) = true := by rw [h0]; rfl
    have : lv = 0 := hlv.1 (by unfold marksOf; rw [List.length_eq_zero_iff.1 h0]; rfl)
    subst this
    have hd2 : ((0 : Int) == 0) = true := rfl
    (repeat (first | (with_reducible apply bindP_intro; (focus (first | with_reducible rfl | (simp only [walkR, get0, getS, Nat.zero_add, Nat.add_zero, Bool.not_true, Bool.not_false, decide_true, decide_false, reduceIte, and_self, Bool.false_eq_true, aload_newA H hml, e1, e2, hlen, hd, hd2, b39] <;> with_reducible rfl)))) | (with_reducible apply bind2_intro; (focus (first | with_reducible rfl | (simp only [walkR, get0, getS, Nat.zero_add, Nat.add_zero, Bool.not_true, Bool.not_false, decide_true, decide_false, reduceIte, and_self, Bool.false_eq_true, aload_newA H hml, e1, e2, hlen, hd, hd2, b39] <;> with_reducible rfl)))) | with_reducible apply cond_t | with_reducible apply cond_f))
    rfl
  · have hd : (((listN m).length : Int) == 0) = false := by rw [Bool.eq_false_iff]; simp; intro e; exact h0 (by rw [e]; rfl)
    (repeat (first | (with_reducible apply bindP_intro; (focus (first | with_reducible rfl | (simp only [walkR, get0, getS, Nat.zero_add, Nat.add_zero, Bool.not_true, Bool.not_false, decide_true, decide_false, reduceIte, and_self, Bool.false_eq_true, aload_newA H hml, e1, e2, hlen, hd] <;> with_reducible rfl)))) | (with_reducible apply bind2_intro; (focus (first | with_reducible rfl | (simp only [walkR, get0, getS, Nat.zero_add, Nat.add_zero, Bool.not_true, Bool.not_false, decide_true, decide_false, reduceIte, and_self, Bool.false_eq_true, aload_newA H hml, e1, e2, hlen, hd] <;> with_reducible rfl)))) | with_reducible apply cond_t | with_reducible apply cond_f))
    refine levels_loop (n := n + 26) hk (kA.cells (cells_push_new H _)) _ 1 0 0 H2 (by omega) (Nat.le_refl _) (by omega) (by omega) (by omega) (.refl _) ?_
    intro H3 k3
    unfold F10_j0
    have n1 : marksOf marks m ≠ [] := by
      intro e
      have : (marksOf marks m).length = (listN m).length := by simp [marksOf]
      rw [e] at this
      exact h0 this.symm
    have l1 : (marksOf marks m).length = (listN m).length := by simp [marksOf]
    obtain ⟨c1, c2, c3⟩ := hlv.2 n1
    have w1 : wonN m (maskFrom (fun x => decide (lv ≤ marks.getD x 0)) 1 0) = true := by rw [won_mask, ← ge_count, decide_eq_true_iff]; omega
    have w2 : wonN m (maskFrom (fun x => decide (lv < marks.getD x 0)) 1 0) = false := by rw [won_mask, ← gt_count, decide_eq_false_iff_not]; omega
    have hrem : abin .rem (.int .u8 (x : Int)) (.int .u8 6) = some (.int .u8 ((x % 6 : Nat) : Int)) := by
      rw [abin_rem _ _ _ (by decide)]; rfl
    have hk6 : x % 6 < 6 := Nat.mod_lt _ (by omega)
    have cb : H3.cells H.next = some (mk marks) := k3.cells (kA.cells (cells_push_new H _))
    have hlt : H.next < H3.next := Heap.cells_lt cb
    have hst : astore lim H3 1 (.ptr (some (H.next, x % 6 * 1))) (.int .u64 ((max (marks.getD (x % 6) 0) more : Nat) : Int)) = some (H3.set H.next (.cells (mk (marks.set (x % 6) (max (marks.getD (x % 6) 0) more))))) :=
      astore_cell cb hl rfl rfl (by rw [hml]; omega) (by rw [Nat.mul_one, mk_set])
    have hml' : (mk (marks.set (x % 6) (max (marks.getD (x % 6) 0) more))).length = 6 := by simp [mk, hk]
    have hld : aload (H3.set H.next (.cells (mk (marks.set (x % 6) (max (marks.getD (x % 6) 0) more))))) (some 6) (.ptr (some (H.next, 0))) = some (.agg (mk (marks.set (x % 6) (max (marks.getD (x % 6) 0) more)))) := by
      rw [aload_agg (cells_set_same hlt)]
      simp only [Ahs.cut, Nat.zero_add, hml', Nat.le_refl, if_true, List.drop_zero, Option.map_some]
      rw [List.take_of_length_le (by omega)]
    obtain ⟨_, H4, e4, lv', rfl, hlv', k4⟩ := level37 (n := n + 22) (marks := marks.set (x % 6) (max (marks.getD (x % 6) 0) more)) (H := H3.set H.next (.cells (mk (marks.set (x % 6) (max (marks.getD (x % 6) 0) more))))) (lim := lim) hm (by simp [hk]) (by rw [Heap.next_set]; omega) (by omega)
    have hmono : lv ≤ lv' := level_mono hlv hlv' (by
      intro y
      by_cases he : x % 6 = y
      · subst he
        have : (marks.set (x % 6) (max (marks.getD (x % 6) 0) more)).getD (x % 6) 0 = max (marks.getD (x % 6) 0) more := by
          rw [List.getD_eq_getElem?_getD (l := marks.set _ _), List.getElem?_set, if_pos rfl, if_pos (by omega)]; rfl
        rw [this]
        exact Nat.le_max_left _ _
      · have : (marks.set (x % 6) (max (marks.getD (x % 6) 0) more)).getD y 0 = marks.getD y 0 := by
          rw [List.getD_eq_getElem?_getD (l := marks.set _ _), List.getElem?_set, if_neg he, ← List.getD_eq_getElem?_getD]
        rw [this]
        exact Nat.le_refl _)
    have hge : decide ((lv : Int) ≤ (lv' : Int)) = true := dT (by omega)
    have m1 := maskFrom_lt (fun x => decide (lv ≤ marks.getD x 0)) 1 (show 0 < 256 by omega)
    have m2 := maskFrom_lt (fun x => decide (lv < marks.getD x 0)) 1 (show 0 < 256 by omega)
    (repeat (first | (with_reducible apply bindP_intro; (focus (first | with_reducible rfl | (simp only [walkR, get0, getS, Nat.zero_add, Nat.add_zero, Bool.not_true, Bool.not_false, decide_true, decide_false, reduceIte, and_self, Bool.false_eq_true, won41 (n := n + 27) hm m1, w1, won41 (n := n + 27) hm m2, w2, hrem, addr6 (b := H.next) (kd := .u8) hk6, load6 cb hk hk6, max_nat, hst, hld, e4, hge, b39] <;> with_reducible rfl)))) | (with_reducible apply bind2_intro; (focus (first | with_reducible rfl | (simp only [walkR, get0, getS, Nat.zero_add, Nat.add_zero, Bool.not_true, Bool.not_false, decide_true, decide_false, reduceIte, and_self, Bool.false_eq_true, won41 (n := n + 27) hm m1, w1, won41 (n := n + 27) hm m2, w2, hrem, addr6 (b := H.next) (kd := .u8) hk6, load6 cb hk hk6, max_nat, hst, hld, e4, hge, b39] <;> with_reducible rfl)))) | with_reducible apply cond_t | with_reducible apply cond_f))
    rfl

theorem wf_marks {H : Heap} {a : AVal} (h : if true = true then ∃ cs, a = .agg cs ∧ Wf H (.int .u64 (.int .u64 (.int .u64 (.int .u64 (.int .u64 (.int .u64 .nil)))))) cs else Wf H (.int .u64 (.int .u64 (.int .u64 (.int .u64 (.int .u64 (.int .u64 .nil)))))) [a]) :
    ∃ marks : List Nat, a = .agg (mk marks) ∧ marks.length = 6 ∧ ∀ x ∈ marks, x < 18446744073709551616 := by
  obtain ⟨cs, rfl, a0, _, rfl, h0, a1, _, rfl, h1, a2, _, rfl, h2, a3, _, rfl, h3, a4, _, rfl, h4, a5, _, rfl, h5, rfl⟩ := h
  obtain ⟨a0, rfl, g0⟩ := wfU64 h0
  obtain ⟨a1, rfl, g1⟩ := wfU64 h1
  obtain ⟨a2, rfl, g2⟩ := wfU64 h2
  obtain ⟨a3, rfl, g3⟩ := wfU64 h3
  obtain ⟨a4, rfl, g4⟩ := wfU64 h4
  obtain ⟨a5, rfl, g5⟩ := wfU64 h5
  refine ⟨[a0, a1, a2, a3, a4, a5], rfl, rfl, ?_⟩
  intro x hx
  simp at hx
  omega

theorem levels_walk (H : Heap) (vs : List AVal) (h : WfArgs H [(false, .int .u8 .nil), (true, .int .u64 (.int .u64 (.int .u64 (.int .u64 (.int .u64 (.int .u64 .nil)))))), (false, .int .u8 .nil), (false, .int .u64 .nil)] vs) :
    ∃ n, isTrue (run ap n H.next 10 vs H) = true := by
  obtain ⟨a0, _, rfl, h0, a1, _, rfl, h1, a2, _, rfl, h2, a3, _, rfl, h3, rfl⟩ := h
  obtain ⟨m, rfl, hm⟩ := arg_u8 h0
  obtain ⟨marks, rfl, hk, _⟩ := wf_marks h1
  obtain ⟨x, rfl, hx⟩ := arg_u8 h2
  obtain ⟨more, rfl, _⟩ := arg_u64 h3
  exact ⟨0 + 30, isTrue_of (levels10 hm hx hk (Nat.le_refl _))⟩
end
end Go.Proofs.Ytpefhojmfcenfaa.conf
