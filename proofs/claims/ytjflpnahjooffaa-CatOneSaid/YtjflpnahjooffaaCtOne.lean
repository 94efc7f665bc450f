/- CatOne: tenants, principals, and how many. -/
import Derived.Test.YtjflpnahjooffaaCtActs
set_option maxRecDepth 100000
set_option linter.unusedVariables false
set_option linter.unusedSimpArgs false
namespace Go.Proofs.Ytjflpnahjooffaa.cat
open Go.Ahs

/-! ## The plain part -/

theorem len_le_of_sub {α : Type} [DecidableEq α] : ∀ {l1 l2 : List α}, l1.Nodup → (∀ x ∈ l1, x ∈ l2) → l1.length ≤ l2.length
  | [], l2, _, _ => Nat.zero_le _
  | x :: xs, l2, hn, hs => by
    rw [List.nodup_cons] at hn
    have hx := hs x (by simp)
    have ih := len_le_of_sub (l2 := l2.erase x) hn.2 fun y hy => (List.mem_erase_of_ne (fun e => hn.1 (by rw [← e]; exact hy))).2 (hs y (by simp [hy]))
    have h1 := List.length_erase_of_mem hx
    have h2 := List.length_pos_of_mem hx
    rw [List.length_cons]
    omega

def cnt (C : PCat) (seen : List Tok) (s : Nat) : Nat := seen.countP fun t => decide ((whoC C t).1 = s)
theorem who_mem {C : PCat} {t : Tok} (h : (whoC C t).2.2 = true) : (t, (whoC C t).1, (whoC C t).2.1) ∈ C.fs := by
  unfold whoC at h ⊢
  cases hl : lk C.fs t with
  | none => rw [hl] at h; simp at h
  | some a => exact lk_mem hl
theorem cnt_le {C : PCat} (hok : OkC C) {seen : List Tok} (hn : seen.Nodup) (hs : ∀ t ∈ seen, (whoC C t).2.2 = true) (s : Nat) : cnt C seen s ≤ 4 := by
  refine Nat.le_trans ?_ (hok.four s)
  unfold cnt manyC
  rw [List.countP_eq_length_filter, List.countP_eq_length_filter]
  have := len_le_of_sub (l1 := seen.filter fun t => decide ((whoC C t).1 = s)) (l2 := (C.fs.filter fun x => decide (x.2.1 = s)).map (·.1)) (List.Pairwise.sublist List.filter_sublist hn) (fun t ht => by
    obtain ⟨h1, h2⟩ := List.mem_filter.1 ht
    exact List.mem_map.2 ⟨_, List.mem_filter.2 ⟨who_mem (hs t h1), h2⟩, rfl⟩)
  rwa [List.length_map] at this

def cntCells (C : PCat) (seen : List Tok) : List AVal := [.int .i64 (cnt C seen 0 : Nat), .int .i64 (cnt C seen 1 : Nat), .int .i64 (cnt C seen 2 : Nat), .int .i64 (cnt C seen 3 : Nat)]
theorem cnt_app (C : PCat) (seen : List Tok) (t : Tok) (s : Nat) : cnt C (seen ++ [t]) s = cnt C seen s + if (whoC C t).1 = s then 1 else 0 := by
  unfold cnt
  rw [List.countP_append]
  simp [List.countP_cons]
theorem cells_app {C : PCat} {seen : List Tok} {t : Tok} {s : Nat} (hs : (whoC C t).1 = s) (h4 : s < 4) : (cntCells C seen).set s (.int .i64 ((cnt C seen s + 1 : Nat) : Int)) = cntCells C (seen ++ [t]) := by
  unfold cntCells
  simp only [cnt_app, hs]
  match s, h4 with
  | 0, _ | 1, _ | 2, _ | 3, _ => simp

/-- What is reserved, slot by slot. -/
def sumTo (C : PCat) : Nat → Quo
  | 0 => noQ
  | i + 1 => addQ (sumTo C i) (quotaC C i).1
theorem quota_fit {C : PCat} (hok : OkC C) (s : Nat) : fitQ (quotaC C s).1 ∧ ((quotaC C s).2 = true → s < 4 ∧ rightQ (quotaC C s).1 = true) ∧ ((quotaC C s).2 = false → (quotaC C s).1 = noQ) := by
  unfold quotaC
  split
  · rename_i h
    exact ⟨hok.fit s h.1, fun _ => ⟨h.1, (hok.fit s h.1).right h.2⟩, fun e => by simp at e⟩
  · exact ⟨.inl rfl, fun e => by simp at e, fun _ => rfl⟩
theorem quota_q {C : PCat} (hok : OkC C) {s : Nat} (hs : s < 4) : (quotaC C s).1 = C.q s := by
  unfold quotaC
  split
  · rfl
  · rename_i h
    exact ((hok.fit s hs).zero (fun e => h ⟨hs, e⟩)).symm
theorem sumTo_le {C : PCat} (hok : OkC C) : ∀ i, (0 ≤ (sumTo C i).k ∧ (sumTo C i).k ≤ 16 * i) ∧ (0 ≤ (sumTo C i).b ∧ (sumTo C i).b ≤ 512 * i) ∧ (0 ≤ (sumTo C i).r ∧ (sumTo C i).r ≤ 100 * i)
  | 0 => by simp [sumTo, noQ]
  | i + 1 => by
    have ih := sumTo_le hok i
    have hf := (quota_fit hok i).1.le
    simp only [sumTo, addQ]
    omega
theorem sumTo_all {C : PCat} (hok : OkC C) : (sumTo C 6).k ≤ 48 ∧ (sumTo C 6).b ≤ 1536 ∧ (sumTo C 6).r ≤ 200 := by
  have h := hok.sums
  have h4 : (quotaC C 4).1 = noQ := by unfold quotaC; rw [if_neg (by omega)]
  have h5 : (quotaC C 5).1 = noQ := by unfold quotaC; rw [if_neg (by omega)]
  simp only [sumTo, addQ, h4, h5, quota_q hok (show 0 < 4 by omega), quota_q hok (show 1 < 4 by omega), quota_q hok (show 2 < 4 by omega), quota_q hok (show 3 < 4 by omega), noQ_k, noQ_b, noQ_r, PCat.q]
  simp only [sum_k, sum_b, sum_r, noQ_k, noQ_b, noQ_r] at h
  omega

/-! ## The walk -/

theorem flat_plain (v : AVal) : flatC v = plainV v := by cases v <;> rfl

theorem tok_at {G : Heap} {v : AVal} {l : List PAct} {i : Nat} {a : PAct} (h : Sl G 15 v (l.map encA)) (ha : l[i]? = some a) : faddrO 3 (Ahs.slot v (i * 15)) = some (Ahs.slot v (i * 15 + 3)) ∧ aload G (some 8) (Ahs.slot v (i * 15 + 3)) = some (.agg (encB a.tok.1)) ∧ ∃ b o cs, Ahs.slot v (i * 15 + 3) = .ptr (some (b, o)) ∧ G.cells b = some cs := by
  have hx : (l.map encA)[i]? = some (encA a) := by rw [List.getElem?_map, ha]; rfl
  have hi : i < (l.map encA).length := (List.getElem?_eq_some_iff.1 hx).1
  obtain ⟨b, o, cs, h1, h2, h3, h4, h5⟩ := h.cut hx
  refine ⟨faddr_slot h (by omega) _ _, ?_, b, o + 3, cs, h2 3, h3⟩
  rw [h2 3, aload_agg h3]
  unfold Ahs.cut
  rw [if_pos (by omega)]
  have e : (cs.drop (o + 3)).take 8 = encB a.tok.1 := by
    have h6 : ((cs.drop o).take 15).drop 3 = (encA a).drop 3 := by rw [h5]
    have h7 : (encA a).drop 3 = encB a.tok.1 ++ encQ a.q := rfl
    rw [List.drop_take, List.drop_drop, h7] at h6
    have h8 : ((cs.drop (o + 3)).take (15 - 3)).take 8 = (encB a.tok.1 ++ encQ a.q).take 8 := by rw [h6]
    rw [List.take_take, show min 8 (15 - 3) = 8 from rfl] at h8
    rw [h8]
    exact List.take_left' (by rw [encB_len, a.tok.2])
  rw [e]; rfl

theorem idx4 {A s : Nat} (k : IntKind) (hs : s < 4) : aindexAddr (some 4) 1 (.ptr (some (A, 0))) (.int k (s : Nat)) = some (.ptr (some (A, s))) := by
  have hj : natOf (.int k (s : Int)) = some s := natOf_nat _ s
  unfold aindexAddr
  simp only [hj]
  rw [if_pos hs]
  simp

section
variable {n lim N : Nat} {K : AVal → Heap → Prop} {H0 : Heap}

/-- Was it seen? -/
theorem again_loop {rec0 : AVal → AVal → AVal → Heap → Prop} {rec4 : AVal → AVal → AVal → AVal → AVal → AVal → Heap → Prop} {v vs t3 t4 t14 t17 t18 t19 : AVal} {l : List PAct} {k : Nat} {a : PAct} {seen : List Tok} {H : Heap}
    (hA : Sl H 15 v (l.map encA)) (ha : l[k]? = some a) (hS : Sl H 8 vs (seen.map fun t => encB t.1)) (hl : seen.length ≤ 1000)
    (hK : F7_j3 (Ahs.runT ap n) lim N K rec0 rec4 v t3 t4 t14 vs (.int .i64 (k : Int)) t17 t18 t19 (.bool (seen.any fun t => decide (t = a.tok))) H) :
    ∀ (q j : Nat) (ag : Bool), seen.length < q + j → j ≤ seen.length → (ag || (seen.drop j).any fun t => decide (t = a.tok)) = (seen.any fun t => decide (t = a.tok)) →
      F7_l6 (Ahs.runT ap n) lim N K rec0 rec4 q v t3 t4 t14 vs (.int .i64 (k : Int)) t17 t18 t19 (.bool ag) (.int .i64 (j : Int)) H
  | 0, j, ag, h1, h2, _ => by exfalso; omega
  | q + 1, j, ag, h1, h2, h3 => by
    show F7_s6 _ _ _ _ _ _ (F7_l6 _ _ _ _ _ _ q) _ _ _ _ _ _ _ _ _ _ _ _
    unfold F7_s6
    have hal : alen false vs = some (.int .i64 (seen.length : Int)) := by have := hS.len; rw [List.length_map] at this; exact this
    by_cases hj : j < seen.length
    · have hd : decide ((j : Int) < (seen.length : Int)) = true := dT (by omega)
      have hx : seen[j]? = some seen[j] := List.getElem?_eq_getElem hj
      have had := hS.addr (k := .i64) (i := j) (by rw [List.length_map]; exact hj)
      have hld := hS.load (i := j) (x := encB seen[j].1) (by rw [List.getElem?_map, hx]; rfl)
      have hkl : k < (l.map encA).length := by rw [List.length_map]; exact (List.getElem?_eq_some_iff.1 ha).1
      have had2 := hA.addr (k := .i64) (i := k) hkl
      obtain ⟨f3, l3, _⟩ := tok_at hA ha
      have hev := tok_eqv seen[j] a.tok
      have hi1 : IntKind.i64.wrap ((j : Int) + 1) = ((j + 1 : Nat) : Int) := i64_succ (by omega)
      have hdrop : seen.drop j = seen[j] :: seen.drop (j + 1) := List.drop_eq_getElem_cons hj
      rw [hdrop, List.any_cons] at h3
      cases ag with
      | true =>
        (repeat (first | (with_reducible apply bindP_intro; (focus (first | with_reducible rfl | (simp only [walkR, get0, getS, Nat.zero_add, Nat.add_zero, Bool.not_true, Bool.not_false, decide_true, decide_false, reduceIte, and_self, Bool.false_eq_true, hal, hd, hi1] <;> with_reducible rfl)))) | (with_reducible apply bind2_intro; (focus (first | with_reducible rfl | (simp only [walkR, get0, getS, Nat.zero_add, Nat.add_zero, Bool.not_true, Bool.not_false, decide_true, decide_false, reduceIte, and_self, Bool.false_eq_true, hal, hd, hi1] <;> with_reducible rfl)))) | with_reducible apply cond_t | with_reducible apply cond_f))
        exact again_loop hA ha hS hl hK q (j + 1) true (by omega) (by omega) (by simpa using h3)
      | false =>
        (repeat (first | (with_reducible apply bindP_intro; (focus (first | with_reducible rfl | (simp only [walkR, get0, getS, Nat.zero_add, Nat.add_zero, Bool.not_true, Bool.not_false, decide_true, decide_false, reduceIte, and_self, Bool.false_eq_true, hal, hd, had, hld, had2, f3, l3, hev, hi1] <;> with_reducible rfl)))) | (with_reducible apply bind2_intro; (focus (first | with_reducible rfl | (simp only [walkR, get0, getS, Nat.zero_add, Nat.add_zero, Bool.not_true, Bool.not_false, decide_true, decide_false, reduceIte, and_self, Bool.false_eq_true, hal, hd, had, hld, had2, f3, l3, hev, hi1] <;> with_reducible rfl)))) | with_reducible apply cond_t | with_reducible apply cond_f))
        exact again_loop hA ha hS hl hK q (j + 1) (decide (seen[j] = a.tok)) (by omega) (by omega) (by simpa using h3)
    · have hd : decide ((j : Int) < (seen.length : Int)) = false := dF (by omega)
      (repeat (first | (with_reducible apply bindP_intro; (focus (first | with_reducible rfl | (simp only [walkR, get0, getS, Nat.zero_add, Nat.add_zero, Bool.not_true, Bool.not_false, decide_true, decide_false, reduceIte, and_self, Bool.false_eq_true, hal, hd] <;> with_reducible rfl)))) | (with_reducible apply bind2_intro; (focus (first | with_reducible rfl | (simp only [walkR, get0, getS, Nat.zero_add, Nat.add_zero, Bool.not_true, Bool.not_false, decide_true, decide_false, reduceIte, and_self, Bool.false_eq_true, hal, hd] <;> with_reducible rfl)))) | with_reducible apply cond_t | with_reducible apply cond_f))
      rw [List.drop_eq_nil_of_le (by omega)] at h3
      simp only [List.any_nil, Bool.or_false] at h3
      rw [h3]
      exact hK

/-- How the counting stands. -/
structure CntAt (H0 H : Heap) (b m A bs : Nat) (C : PCat) (vs : AVal) (seen : List Tok) : Prop where
  keep : Keeps2 H0 H
  cat : CatAt H b m C
  arr : H.cells A = some (cntCells C seen)
  own : Own H 8 vs (seen.map fun t => encB t.1) bs
  ne : bs ≠ b ∧ bs ≠ m ∧ bs ≠ A ∧ A ≠ b ∧ A ≠ m
  low : H0.next ≤ b ∧ H0.next ≤ m ∧ H0.next ≤ A ∧ H0.next ≤ bs
  nodup : seen.Nodup
  sub : ∀ t ∈ seen, (whoC C t).2.2 = true

theorem CntAt.keepS {H H' : Heap} {b m A bs : Nat} {C : PCat} {vs : AVal} {seen : List Tok} (h : CntAt H0 H b m A bs C vs seen) (hk : Keeps2 H H') : CntAt H0 H' b m A bs C vs seen :=
  ⟨h.keep.trans hk, h.cat.keep hk, hk.cells h.arr, h.own.frame (.of (S := fun _ => False) hk) (fun e => e), h.ne, h.low, h.nodup, h.sub⟩

theorem cnt_loop {rec0 : AVal → AVal → AVal → Heap → Prop} {v : AVal} {l : List PAct} {i b m A : Nat} {C : PCat} (hA : ActsAt H0 v l) (hP : PlainH H0) (hok : OkC C) (hlim : lim ≤ H0.next) (hn : 1000016 ≤ n) (hN : 2000 ≤ N) (hl : l.length ≤ 120) (hi : i < l.length)
    (hK : ∀ H, Keeps2 H0 H → CatAt H b m C → rec0 v (.ptr (some (b, 0))) (.int .i64 ((i + 1 : Nat) : Int)) H) :
    ∀ (q k : Nat) (vs : AVal) (bs : Nat) (seen : List Tok) (H : Heap), i + 1 < q + k → k ≤ i + 1 → seen.length ≤ k → CntAt H0 H b m A bs C vs seen →
      F7_l4 (Ahs.runT ap n) lim N K rec0 q v (.ptr (some (b, 0))) (.int .i64 (i : Int)) (.ptr (some (A, 0))) vs (.int .i64 (k : Int)) H
  | 0, k, vs, bs, seen, H, h1, h2, _, _ => by exfalso; omega
  | q + 1, k, vs, bs, seen, H, hq, hk, hsl, hc => by
    show F7_s4 _ _ _ _ _ (F7_l4 _ _ _ _ _ q) _ _ _ _ _ _ _
    unfold F7_s4
    have hkn := hc.keep.next
    by_cases hki : k ≤ i
    · have hd : decide ((k : Int) ≤ (i : Int)) = true := dT (by omega)
      obtain ⟨a, ha, _, had, _, _⟩ := act_at (hA.keep hc.keep) (show k < l.length by omega)
      obtain ⟨f3, l3, _⟩ := tok_at (hA.sl.keep hc.keep) ha
      obtain ⟨n', hn'⟩ : ∃ n', n = n' + 2 := ⟨n - 2, by omega⟩
      obtain ⟨_, H1, r1, rfl, k1⟩ := who_c (n := n') (lim := lim) hc.cat (by omega) a.tok
      rw [← hn'] at r1
      have k1n := k1.next
      have c1 := hc.keepS k1
      have k01 := c1.keep
      have hSl := hA.sl.keep k01
      (repeat (first | (with_reducible apply bindP_intro; (focus (first | with_reducible rfl | (simp only [walkR, get0, getS, Nat.zero_add, Nat.add_zero, Bool.not_true, Bool.not_false, decide_true, decide_false, reduceIte, and_self, Bool.false_eq_true, hd, had, f3, l3, r1] <;> with_reducible rfl)))) | (with_reducible apply bind2_intro; (focus (first | with_reducible rfl | (simp only [walkR, get0, getS, Nat.zero_add, Nat.add_zero, Bool.not_true, Bool.not_false, decide_true, decide_false, reduceIte, and_self, Bool.false_eq_true, hd, had, f3, l3, r1] <;> with_reducible rfl)))) | with_reducible apply cond_t | with_reducible apply cond_f))
      refine again_loop hSl ha c1.own.sl (by omega) ?_ N 0 false (by omega) (Nat.zero_le _) (by simp)
      unfold F7_j3
      have hi1 : IntKind.i64.wrap ((k : Int) + 1) = ((k + 1 : Nat) : Int) := i64_succ (by omega)
      have skip : F7_j2 (Ahs.runT ap n) lim N K rec0 (F7_l4 (Ahs.runT ap n) lim N K rec0 q) v (.ptr (some (b, 0))) (.int .i64 (i : Int)) (.ptr (some (A, 0))) vs (.int .i64 (k : Int)) H1 := by
        unfold F7_j2
        (repeat (first | (with_reducible apply bindP_intro; (focus (first | with_reducible rfl | (simp only [walkR, get0, getS, Nat.zero_add, Nat.add_zero, Bool.not_true, Bool.not_false, decide_true, decide_false, reduceIte, and_self, Bool.false_eq_true, hi1] <;> with_reducible rfl)))) | (with_reducible apply bind2_intro; (focus (first | with_reducible rfl | (simp only [walkR, get0, getS, Nat.zero_add, Nat.add_zero, Bool.not_true, Bool.not_false, decide_true, decide_false, reduceIte, and_self, Bool.false_eq_true, hi1] <;> with_reducible rfl)))) | with_reducible apply cond_t | with_reducible apply cond_f))
        exact cnt_loop hA hP hok hlim hn hN hl hi hK q (k + 1) vs bs seen H1 (by omega) (by omega) (by omega) c1
      cases hw : (whoC C a.tok).2.2 with
      | false =>
        (repeat (first | (with_reducible apply bindP_intro; (focus (first | with_reducible rfl | (simp only [walkR, get0, getS, Nat.zero_add, Nat.add_zero, Bool.not_true, Bool.not_false, decide_true, decide_false, reduceIte, and_self, Bool.false_eq_true] <;> with_reducible rfl)))) | (with_reducible apply bind2_intro; (focus (first | with_reducible rfl | (simp only [walkR, get0, getS, Nat.zero_add, Nat.add_zero, Bool.not_true, Bool.not_false, decide_true, decide_false, reduceIte, and_self, Bool.false_eq_true] <;> with_reducible rfl)))) | with_reducible apply cond_t | with_reducible apply cond_f))
        exact skip
      | true =>
        cases hag : (seen.any fun t => decide (t = a.tok)) with
        | true =>
          (repeat (first | (with_reducible apply bindP_intro; (focus (first | with_reducible rfl | (simp only [walkR, get0, getS, Nat.zero_add, Nat.add_zero, Bool.not_true, Bool.not_false, decide_true, decide_false, reduceIte, and_self, Bool.false_eq_true] <;> with_reducible rfl)))) | (with_reducible apply bind2_intro; (focus (first | with_reducible rfl | (simp only [walkR, get0, getS, Nat.zero_add, Nat.add_zero, Bool.not_true, Bool.not_false, decide_true, decide_false, reduceIte, and_self, Bool.false_eq_true] <;> with_reducible rfl)))) | with_reducible apply cond_t | with_reducible apply cond_f))
          exact skip
        | false =>
          have hmem := who_mem hw
          obtain ⟨e1, e2, e3, e4, e5⟩ := hok.ent _ hmem
          simp only at e1 e2 e3 e4 e5
          obtain ⟨s, hs⟩ : ∃ s, s = (whoC C a.tok).1 := ⟨_, rfl⟩
          obtain ⟨r, hr⟩ : ∃ r, r = (whoC C a.tok).2.1 := ⟨_, rfl⟩
          rw [← hs] at e1 e2
          rw [← hr] at e3 e4
          have hq2 : quotaC C s = (C.q s, true) := by unfold quotaC; rw [if_pos ⟨e1, e2⟩]
          obtain ⟨_, H2, r2, rfl, k2⟩ := quota_c (n := n') (lim := lim) c1.cat (by omega) (s := s) (by omega)
          rw [← hn', hq2] at r2
          have k2n := k2.next
          have hst : astore lim (H2.push (.cells z547173)) 4 (.ptr (some (H2.next, 0))) (.agg (encQ (C.q s))) = some (H2.push (.cells (encQ (C.q s)))) := astore_new (cs := z547173) (x := .agg (encQ (C.q s))) (by omega) rfl rfl rfl
          have k3 : Keeps2 H2 (H2.push (.cells (encQ (C.q s)))) := .push _ _
          have n3 : (H2.push (.cells (encQ (C.q s)))).next = H2.next + 1 := Heap.next_push _ _
          generalize hG : H2.push (.cells (encQ (C.q s))) = G at *
          have k1G := k2.trans k3
          have cG := c1.keepS k1G
          have hSG := hA.sl.keep cG.keep
          have hkl : k < (l.map encA).length := by rw [List.length_map]; exact (List.getElem?_eq_some_iff.1 ha).1
          have hadG := hSG.addr (k := .i64) (i := k) hkl
          obtain ⟨f3G, l3G, _⟩ := tok_at hSG ha
          obtain ⟨_, _, bb, oo, cs0, hsl0, hcs0⟩ := tok_at hA.sl ha
          have dr1 : decide ((r : Int) < 1) = false := dF (by omega)
          have dr3 : decide ((3 : Int) < (r : Int)) = false := dF (by omega)
          have dr4 : decide ((r : Int) > 3) = false := dF (by omega)
          obtain ⟨_, H3, r3, rfl, k4⟩ := op_c (H := G) (n := n' + 1) (lim := lim) (by omega)
          rw [show n' + 1 + 1 = n by omega] at r3
          have k4n := k4.next
          have hkept : ∀ g, keptG g G H3 [Ahs.slot v (k * 15 + 3)] := fun g => keptG_of k4 fun w hw b' hb => by
            simp only [List.mem_singleton] at hw
            subst hw
            rw [hsl0] at hb
            simp only [blkOf, Option.some.injEq] at hb
            subst hb
            refine ⟨cs0, cG.keep.cells hcs0, ?_⟩
            have := hP _ _ (Heap.cells_eq.1 hcs0)
            rw [List.all_eq_true] at this ⊢
            exact fun x hx => by rw [← flat_plain]; exact this x hx
          have hke := tok_eqv a.tok opTok
          rw [decide_eq_false e5] at hke
          have c3 := cG.keepS k4
          have hS3 := hA.sl.keep c3.keep
          have had3 := hS3.addr (k := .i64) (i := k) hkl
          obtain ⟨f33, l33, _⟩ := tok_at hS3 ha
          have h8 : (encB a.tok.1).length = 8 := by rw [encB_len, a.tok.2]
          have hfv : fillV zdff0c5 [(0, 8, .agg (encB a.tok.1))] = some (encB a.tok.1) := by
            unfold fillV
            have hc8 : (AVal.agg (encB a.tok.1)).cells = encB a.tok.1 := rfl
            rw [hc8, if_pos ⟨h8, by decide⟩]
            unfold fillV
            rw [put_all (by rw [h8]; rfl)]
          have k5 : Keeps2 H3 (H3.push (.cells (encB a.tok.1))) := .push _ _
          have n5 : (H3.push (.cells (encB a.tok.1))).next = H3.next + 1 := Heap.next_push _ _
          have c4 := c3.keepS k5
          have hsrc : source (H3.push (.cells (encB a.tok.1))) 8 (.sl (some (H3.next, 0)) 1 (.ex 1)) = some (([encB a.tok.1] : List (List AVal)).length, ([encB a.tok.1] : List (List AVal)).flatten) := by
            rw [source_new H3 (n := 1) (by rw [h8]) (by decide)]
            simp
          generalize hG4 : H3.push (.cells (encB a.tok.1)) = G4 at *
          obtain ⟨vs', H5, bs', hap, own5, f5, hbs5, hlt5⟩ := own_append (lim := lim) (zero := zdff0c5) (bytes := 8) c4.own rfl (by decide) hsrc (fun y hy => by simp at hy; subst hy; exact ⟨h8, encB_one _⟩) (by rw [List.length_map]; unfold room; simp; omega) (by rw [List.length_map]; unfold room; simp; omega) (fun _ => by have := c4.low; omega)
          have hbs : bs' ≥ G4.next := by
            rcases hbs5 with ⟨_, e | e⟩ | e
            · simp at e
            · exact e.elim
            · exact e
          have f5n := f5.next
          have lcat := c4.cat.ltb
          have lA := Heap.cells_lt c4.arr
          have nb : ∀ c, slBlk vs = some c → c = bs := fun c e => c4.own.blk c e
          obtain ⟨ne1, ne2, ne3, ne4, ne5⟩ := c4.ne
          obtain ⟨lo1, lo2, lo3, lo4⟩ := c4.low
          have cat5 : CatAt H5 b m C := c4.cat.frame f5 (fun e => ne1 (nb _ e).symm) (fun e => ne2 (nb _ e).symm)
          have arr5 : H5.cells A = some (cntCells C seen) := f5.cells c4.arr (fun e => ne3 (nb _ e).symm)
          have hix : aindexAddr (some 4) 1 (.ptr (some (A, 0))) (.int .u8 (s : Nat)) = some (.ptr (some (A, s))) := idx4 .u8 e1
          have hldA : aload H5 none (.ptr (some (A, s))) = some (.int .i64 (cnt C seen s : Nat)) := by
            rw [aload_one arr5]
            match s, e1 with
            | 0, _ | 1, _ | 2, _ | 3, _ => rfl
          have hc4 := cnt_le hok hc.nodup hc.sub s
          have hw1 : IntKind.i64.wrap ((cnt C seen s : Nat) + 1) = ((cnt C seen s + 1 : Nat) : Int) := i64_succ (by omega)
          have hstA : astore lim H5 1 (.ptr (some (A, s))) (.int .i64 ((cnt C seen s + 1 : Nat) : Int)) = some (H5.set A (.cells (cntCells C (seen ++ [a.tok])))) := astore_cell arr5 (by omega) rfl rfl (by show s < 4; exact e1) (cells_app hs.symm e1)
          have hnew : a.tok ∉ seen := fun hm => by
            have : (seen.any fun t => decide (t = a.tok)) = true := List.any_eq_true.2 ⟨_, hm, by simp⟩
            rw [hag] at this
            simp at this
          have keep5 : Keeps2 H0 H5 := Fram.keeps c4.keep f5 fun c hc' e => by have := nb _ e; omega
          have fin : CntAt H0 (H5.set A (.cells (cntCells C (seen ++ [a.tok])))) b m A bs' C vs' (seen ++ [a.tok]) := by
            refine ⟨keep5.setNew (by omega) _, ⟨cells_set_other cat5.cells (Ne.symm ne4), cat5.map.mono (Heap.get_set_other _ _ _ _ (Ne.symm ne5)) fun _ _ _ _ h => h⟩, cells_set_same (Heap.cells_lt arr5), ?_, ⟨by omega, by omega, by omega, ne4, ne5⟩, ⟨lo1, lo2, lo3, by omega⟩, ?_, ?_⟩
            · rw [List.map_append]
              exact own5.frame (Fram.set (S := fun c => c = A) rfl) (fun e => by omega)
            · rw [List.nodup_append]
              exact ⟨hc.nodup, by simp, fun x hx y hy e => by simp at hy; subst hy; subst e; exact hnew hx⟩
            · intro t ht
              rcases List.mem_append.1 ht with ht | ht
              · exact hc.sub t ht
              · simp at ht; subst ht; exact hw
          rw [← hs, ← hr]
          (repeat (first | (with_reducible apply bindP_intro; (focus (first | with_reducible rfl | (simp only [walkR, get0, getS, Nat.zero_add, Nat.add_zero, Bool.not_true, Bool.not_false, decide_true, decide_false, reduceIte, and_self, Bool.false_eq_true, r2, hst, dr1, dr3, dr4, hadG, f3G, l3G, r3] <;> with_reducible rfl)))) | (with_reducible apply bind2_intro; (focus (first | with_reducible rfl | (simp only [walkR, get0, getS, Nat.zero_add, Nat.add_zero, Bool.not_true, Bool.not_false, decide_true, decide_false, reduceIte, and_self, Bool.false_eq_true, r2, hst, dr1, dr3, dr4, hadG, f3G, l3G, r3] <;> with_reducible rfl)))) | with_reducible apply cond_t | with_reducible apply cond_f))
          refine ⟨hkept _, ?_⟩
          (repeat (first | (with_reducible apply bindP_intro; (focus (first | with_reducible rfl | (simp only [walkR, get0, getS, Nat.zero_add, Nat.add_zero, Bool.not_true, Bool.not_false, decide_true, decide_false, reduceIte, and_self, Bool.false_eq_true, hke, had3, f33, l33, hfv, hG4, hap, hix, hldA, hw1, hstA] <;> with_reducible rfl)))) | (with_reducible apply bind2_intro; (focus (first | with_reducible rfl | (simp only [walkR, get0, getS, Nat.zero_add, Nat.add_zero, Bool.not_true, Bool.not_false, decide_true, decide_false, reduceIte, and_self, Bool.false_eq_true, hke, had3, f33, l33, hfv, hG4, hap, hix, hldA, hw1, hstA] <;> with_reducible rfl)))) | with_reducible apply cond_t | with_reducible apply cond_f))
          unfold F7_j2
          (repeat (first | (with_reducible apply bindP_intro; (focus (first | with_reducible rfl | (simp only [walkR, get0, getS, Nat.zero_add, Nat.add_zero, Bool.not_true, Bool.not_false, decide_true, decide_false, reduceIte, and_self, Bool.false_eq_true, hi1] <;> with_reducible rfl)))) | (with_reducible apply bind2_intro; (focus (first | with_reducible rfl | (simp only [walkR, get0, getS, Nat.zero_add, Nat.add_zero, Bool.not_true, Bool.not_false, decide_true, decide_false, reduceIte, and_self, Bool.false_eq_true, hi1] <;> with_reducible rfl)))) | with_reducible apply cond_t | with_reducible apply cond_f))
          exact cnt_loop hA hP hok hlim hn hN hl hi hK q (k + 1) vs' bs' (seen ++ [a.tok]) _ (by omega) (by omega) (by rw [List.length_append]; simp; omega) fin
    · have hd : decide ((k : Int) ≤ (i : Int)) = false := dF (by omega)
      (repeat (first | (with_reducible apply bindP_intro; (focus (first | with_reducible rfl | (simp only [walkR, get0, getS, Nat.zero_add, Nat.add_zero, Bool.not_true, Bool.not_false, decide_true, decide_false, reduceIte, and_self, Bool.false_eq_true, hd] <;> with_reducible rfl)))) | (with_reducible apply bind2_intro; (focus (first | with_reducible rfl | (simp only [walkR, get0, getS, Nat.zero_add, Nat.add_zero, Bool.not_true, Bool.not_false, decide_true, decide_false, reduceIte, and_self, Bool.false_eq_true, hd] <;> with_reducible rfl)))) | with_reducible apply cond_t | with_reducible apply cond_f))
      unfold F7_j1
      have x0 : aindexAddr (some 4) 1 (.ptr (some (A, 0))) (.int .i64 0) = some (.ptr (some (A, 0))) := idx4 (s := 0) .i64 (by omega)
      have x1 : aindexAddr (some 4) 1 (.ptr (some (A, 0))) (.int .i64 1) = some (.ptr (some (A, 1))) := idx4 (s := 1) .i64 (by omega)
      have x2 : aindexAddr (some 4) 1 (.ptr (some (A, 0))) (.int .i64 2) = some (.ptr (some (A, 2))) := idx4 (s := 2) .i64 (by omega)
      have x3 : aindexAddr (some 4) 1 (.ptr (some (A, 0))) (.int .i64 3) = some (.ptr (some (A, 3))) := idx4 (s := 3) .i64 (by omega)
      have l0 : aload H none (.ptr (some (A, 0))) = some (.int .i64 (cnt C seen 0 : Nat)) := by rw [aload_one hc.arr]; rfl
      have l1 : aload H none (.ptr (some (A, 1))) = some (.int .i64 (cnt C seen 1 : Nat)) := by rw [aload_one hc.arr]; rfl
      have l2 : aload H none (.ptr (some (A, 2))) = some (.int .i64 (cnt C seen 2 : Nat)) := by rw [aload_one hc.arr]; rfl
      have l3 : aload H none (.ptr (some (A, 3))) = some (.int .i64 (cnt C seen 3 : Nat)) := by rw [aload_one hc.arr]; rfl
      have hle := cnt_le hok hc.nodup hc.sub
      have d0 : decide ((4 : Int) < ((cnt C seen 0 : Nat) : Int)) = false := dF (by have := hle 0; omega)
      have d1 : decide ((4 : Int) < ((cnt C seen 1 : Nat) : Int)) = false := dF (by have := hle 1; omega)
      have d2 : decide ((4 : Int) < ((cnt C seen 2 : Nat) : Int)) = false := dF (by have := hle 2; omega)
      have d3 : decide ((4 : Int) < ((cnt C seen 3 : Nat) : Int)) = false := dF (by have := hle 3; omega)
      have hi1 : IntKind.i64.wrap ((i : Int) + 1) = ((i + 1 : Nat) : Int) := i64_succ (by omega)
      (repeat (first | (with_reducible apply bindP_intro; (focus (first | with_reducible rfl | (simp only [walkR, get0, getS, Nat.zero_add, Nat.add_zero, Bool.not_true, Bool.not_false, decide_true, decide_false, reduceIte, and_self, Bool.false_eq_true, x0, l0, d0, x1, l1, d1, x2, l2, d2, x3, l3, d3, hi1] <;> with_reducible rfl)))) | (with_reducible apply bind2_intro; (focus (first | with_reducible rfl | (simp only [walkR, get0, getS, Nat.zero_add, Nat.add_zero, Bool.not_true, Bool.not_false, decide_true, decide_false, reduceIte, and_self, Bool.false_eq_true, x0, l0, d0, x1, l1, d1, x2, l2, d2, x3, l3, d3, hi1] <;> with_reducible rfl)))) | with_reducible apply cond_t | with_reducible apply cond_f))
      exact hK H hc.keep hc.cat

theorem slots_loop {rec0 : AVal → AVal → AVal → Heap → Prop} {v : AVal} {l : List PAct} {i b m : Nat} {C : PCat} (hA : ActsAt H0 v l) (hP : PlainH H0) (hok : OkC C) (hlim : lim ≤ H0.next) (hn : 1000016 ≤ n) (hN : 2000 ≤ N) (hl : l.length ≤ 120) (hi : i < l.length) (hlow : H0.next ≤ b ∧ H0.next ≤ m)
    (hK : ∀ H, Keeps2 H0 H → CatAt H b m C → rec0 v (.ptr (some (b, 0))) (.int .i64 ((i + 1 : Nat) : Int)) H) :
    ∀ (q s : Nat) (H : Heap), 6 < q + s → s ≤ 6 → Keeps2 H0 H → CatAt H b m C →
      F7_l2 (Ahs.runT ap n) lim N K rec0 q v (.ptr (some (b, 0))) (.int .i64 (i : Int)) (.int .i64 (sumTo C s).k) (.int .i64 (sumTo C s).b) (.int .i64 (sumTo C s).r) (.int .u8 (s : Nat)) H
  | 0, s, H, h1, h2, _, _ => by exfalso; omega
  | q + 1, s, H, hq, hs, k0, hc => by
    show F7_s2 _ _ _ _ _ (F7_l2 _ _ _ _ _ q) _ _ _ _ _ _ _ _
    unfold F7_s2
    have hkn := k0.next
    by_cases h6 : s < 6
    · have hd : decide ((s : Int) < 6) = true := dT (by omega)
      obtain ⟨n', hn'⟩ : ∃ n', n = n' + 2 := ⟨n - 2, by omega⟩
      obtain ⟨_, H1, r1, rfl, k1⟩ := quota_c (n := n') (lim := lim) hc (by omega) (s := s) (by omega)
      rw [← hn'] at r1
      have k1n := k1.next
      obtain ⟨hf, hT, hF⟩ := quota_fit hok s
      have hle := hf.le
      have hsl := sumTo_le hok s
      have hsum : sumTo C (s + 1) = addQ (sumTo C s) (quotaC C s).1 := rfl
      generalize hqd : quotaC C s = qo at *
      obtain ⟨qq, ok⟩ := qo
      simp only at hf hT hF hle hsum r1
      have hst : astore lim (H1.push (.cells z547173)) 4 (.ptr (some (H1.next, 0))) (.agg (encQ qq)) = some (H1.push (.cells (encQ qq))) := astore_new (cs := z547173) (x := .agg (encQ qq)) (by omega) rfl rfl rfl
      have k2 : Keeps2 H1 (H1.push (.cells (encQ qq))) := .push _ _
      have x2 : (H1.push (.cells (encQ qq))).cells H1.next = some (encQ qq) := cells_push_new _ _
      have n2 : (H1.push (.cells (encQ qq))).next = H1.next + 1 := Heap.next_push _ _
      generalize hG : H1.push (.cells (encQ qq)) = G at *
      have lq : aload G (some 4) (.ptr (some (H1.next, 0))) = some (.agg (encQ qq)) := aload_all x2 rfl
      have w1 : IntKind.i64.wrap ((sumTo C s).k + qq.k) = (sumTo C (s + 1)).k := by rw [hsum]; exact wrap_i64 (by omega) (by omega)
      have w2 : IntKind.i64.wrap ((sumTo C s).b + qq.b) = (sumTo C (s + 1)).b := by rw [hsum]; exact wrap_i64 (by omega) (by omega)
      have w3 : IntKind.i64.wrap ((sumTo C s).r + qq.r) = (sumTo C (s + 1)).r := by rw [hsum]; exact wrap_i64 (by omega) (by omega)
      have hi1 : IntKind.u8.wrap ((s : Int) + 1) = ((s + 1 : Nat) : Int) := by
        rw [show ((s : Int) + 1) = ((s + 1 : Nat) : Int) by omega]; exact wrapN_u8 (by omega)
      have k02 := k0.trans (k1.trans k2)
      cases ok with
      | true =>
        obtain ⟨hs4, hr⟩ := hT rfl
        have d3 : decide ((3 : Int) < (s : Int)) = false := dF (by omega)
        obtain ⟨_, H3, r3, rfl, k3⟩ := right_c (H := G) (n := n') (lim := lim) qq
        rw [← hn', hr] at r3
        have x3 := k3.cells x2
        have l0 : aload H3 none (.ptr (some (H1.next, 0))) = some (.int .i64 qq.k) := by rw [aload_one x3]; rfl
        have l1 : aload H3 none (.ptr (some (H1.next, 1))) = some (.int .i64 qq.b) := by rw [aload_one x3]; rfl
        have l2 : aload H3 none (.ptr (some (H1.next, 2))) = some (.int .i64 qq.r) := by rw [aload_one x3]; rfl
        (repeat (first | (with_reducible apply bindP_intro; (focus (first | with_reducible rfl | (simp only [walkR, get0, getS, Nat.zero_add, Nat.add_zero, Bool.not_true, Bool.not_false, decide_true, decide_false, reduceIte, and_self, Bool.false_eq_true, hd, r1, hst, d3, lq, r3, l0, l1, l2, w1, w2, w3, hi1] <;> with_reducible rfl)))) | (with_reducible apply bind2_intro; (focus (first | with_reducible rfl | (simp only [walkR, get0, getS, Nat.zero_add, Nat.add_zero, Bool.not_true, Bool.not_false, decide_true, decide_false, reduceIte, and_self, Bool.false_eq_true, hd, r1, hst, d3, lq, r3, l0, l1, l2, w1, w2, w3, hi1] <;> with_reducible rfl)))) | with_reducible apply cond_t | with_reducible apply cond_f))
        exact slots_loop hA hP hok hlim hn hN hl hi hlow hK q (s + 1) H3 (by omega) (by omega) (k02.trans k3) (hc.keep ((k1.trans k2).trans k3))
      | false =>
        have hz := hF rfl
        subst hz
        have l0 : aload G none (.ptr (some (H1.next, 0))) = some (.int .i64 noQ.k) := by rw [aload_one x2]; rfl
        have l1 : aload G none (.ptr (some (H1.next, 1))) = some (.int .i64 noQ.b) := by rw [aload_one x2]; rfl
        have l2 : aload G none (.ptr (some (H1.next, 2))) = some (.int .i64 noQ.r) := by rw [aload_one x2]; rfl
        have hb : buildO z547173 [] = some (.agg (encQ noQ)) := rfl
        have he : eqvO true (.cells [(.int .i64), (.int .i64), (.int .i64), (.int .i64)]) (.agg (encQ noQ)) (.agg (encQ noQ)) = some (.bool false) := rfl
        (repeat (first | (with_reducible apply bindP_intro; (focus (first | with_reducible rfl | (simp only [walkR, get0, getS, Nat.zero_add, Nat.add_zero, Bool.not_true, Bool.not_false, decide_true, decide_false, reduceIte, and_self, Bool.false_eq_true, hd, r1, hst, lq, hb, he, l0, l1, l2, w1, w2, w3, hi1] <;> with_reducible rfl)))) | (with_reducible apply bind2_intro; (focus (first | with_reducible rfl | (simp only [walkR, get0, getS, Nat.zero_add, Nat.add_zero, Bool.not_true, Bool.not_false, decide_true, decide_false, reduceIte, and_self, Bool.false_eq_true, hd, r1, hst, lq, hb, he, l0, l1, l2, w1, w2, w3, hi1] <;> with_reducible rfl)))) | with_reducible apply cond_t | with_reducible apply cond_f))
        exact slots_loop hA hP hok hlim hn hN hl hi hlow hK q (s + 1) G (by omega) (by omega) k02 (hc.keep (k1.trans k2))
    · have hd : decide ((s : Int) < 6) = false := dF (by omega)
      have hs6 : s = 6 := by omega
      subst hs6
      (repeat (first | (with_reducible apply bindP_intro; (focus (first | with_reducible rfl | (simp only [walkR, get0, getS, Nat.zero_add, Nat.add_zero, Bool.not_true, Bool.not_false, decide_true, decide_false, reduceIte, and_self, Bool.false_eq_true, hd] <;> with_reducible rfl)))) | (with_reducible apply bind2_intro; (focus (first | with_reducible rfl | (simp only [walkR, get0, getS, Nat.zero_add, Nat.add_zero, Bool.not_true, Bool.not_false, decide_true, decide_false, reduceIte, and_self, Bool.false_eq_true, hd] <;> with_reducible rfl)))) | with_reducible apply cond_t | with_reducible apply cond_f))
      unfold F7_j4
      obtain ⟨a1, a2, a3⟩ := sumTo_all hok
      have d1 : decide ((48 : Int) < (sumTo C 6).k) = false := dF (by omega)
      have d2 : decide ((1536 : Int) < (sumTo C 6).b) = false := dF (by omega)
      have d3 : decide ((200 : Int) < (sumTo C 6).r) = false := dF (by omega)
      have hfv : fillV [] [] = some [] := rfl
      have n1 : (H.push (.cells z547173)).next = H.next + 1 := Heap.next_push _ _
      have k1 : Keeps2 H ((H.push (.cells z547173)).push (.cells [])) := (Keeps2.push _ _).trans (.push _ _)
      have lc := hc.ltb
      have hst : CntAt H0 ((H.push (.cells z547173)).push (.cells [])) b m H.next (H.next + 1) C (.sl (some (H.next + 1, 0)) 0 (.ex 0)) [] := by
        refine ⟨k0.trans k1, hc.keep k1, cells_push_old (cells_push_new H _), ⟨fun x hx => by simp at hx, .inr (.inl ⟨0, [], rfl, rfl, ?_, Nat.le_refl _⟩)⟩, ⟨by omega, by omega, by omega, by omega, by omega⟩, ⟨hlow.1, hlow.2, by omega, by omega⟩, by simp, fun t ht => by simp at ht⟩
        rw [← n1]; exact cells_push_new _ _
      (repeat (first | (with_reducible apply bindP_intro; (focus (first | with_reducible rfl | (simp only [walkR, get0, getS, Nat.zero_add, Nat.add_zero, Bool.not_true, Bool.not_false, decide_true, decide_false, reduceIte, and_self, Bool.false_eq_true, d1, d2, d3, hfv, n1] <;> with_reducible rfl)))) | (with_reducible apply bind2_intro; (focus (first | with_reducible rfl | (simp only [walkR, get0, getS, Nat.zero_add, Nat.add_zero, Bool.not_true, Bool.not_false, decide_true, decide_false, reduceIte, and_self, Bool.false_eq_true, d1, d2, d3, hfv, n1] <;> with_reducible rfl)))) | with_reducible apply cond_t | with_reducible apply cond_f))
      exact cnt_loop hA hP hok hlim hn hN hl hi hK N 0 _ (H.next + 1) [] _ (by omega) (Nat.zero_le _) (Nat.le_refl _) hst

theorem cone_loop {v : AVal} {l : List PAct} (hA : ActsAt H0 v l) (hP : PlainH H0) (hlim : lim ≤ H0.next) (hn : 1000017 ≤ n) (hN : 2000 ≤ N) (hl : l.length ≤ 120) (hK : ∀ H', K (.bool true) H') :
    ∀ (q i b m : Nat) (C : PCat) (H : Heap), l.length < q + i → i ≤ l.length → CatAt H b m C → OkC C → Keeps2 H0 H → H0.next ≤ b → H0.next ≤ m →
      F7_l0 (Ahs.runT ap n) lim N K q v (.ptr (some (b, 0))) (.int .i64 (i : Int)) H
  | 0, i, b, m, C, H, h1, h2, _, _, _, _, _ => by exfalso; omega
  | q + 1, i, b, m, C, H, hq, hi, hc, hok, k0, g1, g2 => by
    show F7_s0 _ _ _ _ (F7_l0 _ _ _ _ q) _ _ _ _
    unfold F7_s0
    have hal : alen false v = some (.int .i64 (l.length : Int)) := by have := hA.sl.len; rw [List.length_map] at this; exact this
    have hkn := k0.next
    obtain ⟨n', hn'⟩ : ∃ n', n = n' + 1 := ⟨n - 1, by omega⟩
    by_cases hil : i < l.length
    · have hdd : decide ((i : Int) < (l.length : Int)) = true := dT (by omega)
      obtain ⟨_, H1, r1, rfl, k1⟩ := write_c (n := n') (lim := lim) hc hok (by omega) (by omega)
      have k1n := k1.next
      have k01 := k0.trans k1
      obtain ⟨a, ha, hwa, had, hld, _⟩ := act_at (hA.keep k01) hil
      obtain ⟨_, H2, r2, b', m', rfl, c2, f2, e2⟩ := does_c (n := n') (lim := lim) (hc.keep k1) hok hwa (by omega) (by omega) (by omega) (by omega)
      have k2 : Keeps2 H0 H2 := Fram.keeps k01 f2 fun c hc e => by rcases e with rfl | rfl <;> omega
      have k2n := k2.next
      have g1' : H0.next ≤ b' := by rcases e2 with ⟨rfl, rfl⟩ | ⟨e1, e2⟩ <;> omega
      have g2' : H0.next ≤ m' := by rcases e2 with ⟨rfl, rfl⟩ | ⟨e1, e2⟩ <;> omega
      obtain ⟨hok2, hsame⟩ := actC_ok hok a
      have next : ∀ G, Keeps2 H0 G → CatAt G b' m' (actC C a).2 → F7_l0 (Ahs.runT ap n) lim N K q v (.ptr (some (b', 0))) (.int .i64 ((i + 1 : Nat) : Int)) G := fun G kG cG =>
        cone_loop hA hP hlim hn hN hl hK q (i + 1) b' m' _ G (by omega) (by omega) cG hok2 kG g1' g2'
      by_cases hz : (actC C a).1 = 0
      · have ez : ((actC C a).1 != 0) = false := by rw [hz]; rfl
        rw [← hn'] at r1 r2
        (repeat (first | (with_reducible apply bindP_intro; (focus (first | with_reducible rfl | (simp only [walkR, get0, getS, Nat.zero_add, Nat.add_zero, Bool.not_true, Bool.not_false, decide_true, decide_false, reduceIte, and_self, Bool.false_eq_true, hal, hdd, r1, had, hld, r2, ez] <;> with_reducible rfl)))) | (with_reducible apply bind2_intro; (focus (first | with_reducible rfl | (simp only [walkR, get0, getS, Nat.zero_add, Nat.add_zero, Bool.not_true, Bool.not_false, decide_true, decide_false, reduceIte, and_self, Bool.false_eq_true, hal, hdd, r1, had, hld, r2, ez] <;> with_reducible rfl)))) | with_reducible apply cond_t | with_reducible apply cond_f))
        exact slots_loop hA hP hok2 hlim (by omega) hN hl hil ⟨g1', g2'⟩ next N 0 H2 (by omega) (Nat.zero_le _) k2 c2
      · have ez : ((actC C a).1 != 0) = true := by simpa using hz
        obtain ⟨_, H3, r3, rfl, k3⟩ := write_c (n := n') (lim := lim) c2 hok2 (by omega) (by omega)
        rw [hsame hz] at r3
        have es : (!(writeC C == writeC C)) = false := by simp
        rw [← hn'] at r1 r2 r3
        (repeat (first | (with_reducible apply bindP_intro; (focus (first | with_reducible rfl | (simp only [walkR, get0, getS, Nat.zero_add, Nat.add_zero, Bool.not_true, Bool.not_false, decide_true, decide_false, reduceIte, and_self, Bool.false_eq_true, hal, hdd, r1, had, hld, r2, ez, r3, es] <;> with_reducible rfl)))) | (with_reducible apply bind2_intro; (focus (first | with_reducible rfl | (simp only [walkR, get0, getS, Nat.zero_add, Nat.add_zero, Bool.not_true, Bool.not_false, decide_true, decide_false, reduceIte, and_self, Bool.false_eq_true, hal, hdd, r1, had, hld, r2, ez, r3, es] <;> with_reducible rfl)))) | with_reducible apply cond_t | with_reducible apply cond_f))
        exact slots_loop hA hP hok2 hlim (by omega) hN hl hil ⟨g1', g2'⟩ next N 0 H3 (by omega) (Nat.zero_le _) (k2.trans k3) (c2.keep k3)
    · have hdd : decide ((i : Int) < (l.length : Int)) = false := dF (by omega)
      have hb := b19 (n := n') (lim := lim) (H := H)
      rw [← hn'] at hb
      (repeat (first | (with_reducible apply bindP_intro; (focus (first | with_reducible rfl | (simp only [walkR, get0, getS, Nat.zero_add, Nat.add_zero, Bool.not_true, Bool.not_false, decide_true, decide_false, reduceIte, and_self, Bool.false_eq_true, hal, hdd] <;> with_reducible rfl)))) | (with_reducible apply bind2_intro; (focus (first | with_reducible rfl | (simp only [walkR, get0, getS, Nat.zero_add, Nat.add_zero, Bool.not_true, Bool.not_false, decide_true, decide_false, reduceIte, and_self, Bool.false_eq_true, hal, hdd] <;> with_reducible rfl)))) | with_reducible apply cond_t | with_reducible apply cond_f))
      unfold F7_j0
      (repeat (first | (with_reducible apply bindP_intro; (focus (first | with_reducible rfl | (simp only [walkR, get0, getS, Nat.zero_add, Nat.add_zero, Bool.not_true, Bool.not_false, decide_true, decide_false, reduceIte, and_self, Bool.false_eq_true, hb] <;> with_reducible rfl)))) | (with_reducible apply bind2_intro; (focus (first | with_reducible rfl | (simp only [walkR, get0, getS, Nat.zero_add, Nat.add_zero, Bool.not_true, Bool.not_false, decide_true, decide_false, reduceIte, and_self, Bool.false_eq_true, hb] <;> with_reducible rfl)))) | with_reducible apply cond_t | with_reducible apply cond_f))
      exact hK H
end

theorem one_walk_c {n : Nat} {H : Heap} {v : AVal} {l : List PAct} (hA : ActsAt H v l) (hP : PlainH H) (hn : 1000017 ≤ n) :
    ∃ r H', Ahs.runT ap (n + 1) H.next (.fn 7) [v] H = some (r, H') ∧ r = .bool true := by
  refine F7_run a7 ?_
  unfold F7
  have hal : alen false v = some (.int .i64 (l.length : Int)) := by have := hA.sl.len; rw [List.length_map] at this; exact this
  obtain ⟨n', hn'⟩ : ∃ n', n = n' + 1 := ⟨n - 1, by omega⟩
  have hb := b19 (n := n') (lim := H.next) (H := H)
  rw [← hn'] at hb
  by_cases h1 : 120 < l.length
  · have d1 : decide ((120 : Int) < (l.length : Int)) = true := dT (by omega)
    (repeat (first | (with_reducible apply bindP_intro; (focus (first | with_reducible rfl | (simp only [walkR, get0, getS, Nat.zero_add, Nat.add_zero, Bool.not_true, Bool.not_false, decide_true, decide_false, reduceIte, and_self, Bool.false_eq_true, hal, d1, hb] <;> with_reducible rfl)))) | (with_reducible apply bind2_intro; (focus (first | with_reducible rfl | (simp only [walkR, get0, getS, Nat.zero_add, Nat.add_zero, Bool.not_true, Bool.not_false, decide_true, decide_false, reduceIte, and_self, Bool.false_eq_true, hal, d1, hb] <;> with_reducible rfl)))) | with_reducible apply cond_t | with_reducible apply cond_f))
    exact rfl
  have d1 : decide ((120 : Int) < (l.length : Int)) = false := dF (by omega)
  obtain ⟨b, m, H1, r1, c1, k1, g1, g2, _, _⟩ := cnew_c (n := n') (lim := H.next) (H := H)
  rw [← hn'] at r1
  (repeat (first | (with_reducible apply bindP_intro; (focus (first | with_reducible rfl | (simp only [walkR, get0, getS, Nat.zero_add, Nat.add_zero, Bool.not_true, Bool.not_false, decide_true, decide_false, reduceIte, and_self, Bool.false_eq_true, hal, d1, r1] <;> with_reducible rfl)))) | (with_reducible apply bind2_intro; (focus (first | with_reducible rfl | (simp only [walkR, get0, getS, Nat.zero_add, Nat.add_zero, Bool.not_true, Bool.not_false, decide_true, decide_false, reduceIte, and_self, Bool.false_eq_true, hal, d1, r1] <;> with_reducible rfl)))) | with_reducible apply cond_t | with_reducible apply cond_f))
  exact cone_loop hA hP (Nat.le_refl _) hn (by omega) (by omega) (fun _ => rfl) n 0 b m newC H1 (by omega) (Nat.zero_le _) c1 ok_new k1 g1 g2

theorem one_walk (H : Heap) (vs : List AVal) (h : WfArgs H [(false, .slice actTy .nil)] vs) (hP : PlainH H) : ∃ n, isTrue (run ap n H.next 7 vs H) = true := by
  obtain ⟨a0, _, rfl, h0, rfl⟩ := h
  simp only [Bool.false_eq_true, if_false] at h0
  obtain ⟨l0, A0⟩ := wf_acts h0
  exact ⟨_, isTrue_run (one_walk_c (n := 2000000) A0 hP (by omega))⟩
end Go.Proofs.Ytjflpnahjooffaa.cat
