/- The members up to an index: a range over slices.Backward. -/
import Derived.Test.YtpefhojmfcenfaaLgPure
import Derived.Test.YtpefhojmfcenfaaBhsW4
set_option maxRecDepth 100000
set_option linter.unusedVariables false
set_option linter.unusedSimpArgs false
namespace Go.Proofs.Ytpefhojmfcenfaa.logs
open Go.Ahs

def f60pre : ACode := match f60.body with | .seq c _ => c | _ => .skip
def f60reg : ACode := match f60.body with | .seq _ (.seq (.seq c _) _) => c | _ => .skip
def f60post : ACode := match f60.body with | .seq _ (.seq _ c) => c | _ => .skip
def f60A : ACode := match f60.body with | .seq _ (.seq (.seq _ (.block _ (.ranges _ _ a _))) _) => a | _ => .skip
def f60B : ACode := match f60.body with | .seq _ (.seq (.seq _ (.block _ (.ranges _ _ _ b))) _) => b | _ => .skip

theorem e60 (R : Caller) (lim n : Nat) (K : AVal → Heap → Prop) (a0 a1 : AVal) (H : Heap) : execW R lim n 43 f60.body (argT [a0, a1]) H (retW [(.cell 4 none), (.cell 5 none)] K) = (
bind2 (if (a1).cells.all (·.one) then some (.ptr (some (H.next, 0)), H.push (.cells (a1).cells)) else none) fun v1 H2 =>
bindP (nilO a0) fun v6 =>
bindP (faddrO 4 v6) fun v7 =>
bindP (aload ((H2.push (.cells [(.int .u8 0)])).push (.cells [(.int .u64 0)])) none v7) fun v8 =>
bind2 (R lim (.fn 75) [v8] ((H2.push (.cells [(.int .u8 0)])).push (.cells [(.int .u64 0)]))) fun v9 H5 =>
∃ ex l H', exec R lim n (.ranges (.tmp 12) [13, 14] f60A f60B) ⟨listT 43 (setT (setT (setT (setT (setT (setT (setT (setT (argT [a0, a1]) 3 v1) 4 (.ptr (some (H2.next, 0)))) 5 (.ptr (some ((H2.push (.cells [(.int .u8 0)])).next, 0)))) 8 a0) 9 v6) 10 v7) 11 v8) 12 v9), H5⟩ = some (ex, ⟨l, H'⟩) ∧ l.length = 43 ∧
  kBlk 0 (kSeq (execW R lim n 43 f60post) (retW [(.cell 4 none), (.cell 5 none)] K)) ex (fun i => l.getD i und) H') := by kernel_rfl

theorem post60 (R : Caller) (lim n : Nat) (K : AVal → Heap → Prop) (T : Tm) (H : Heap) : execW R lim n 43 f60post T H (retW [(.cell 4 none), (.cell 5 none)] K) = (
bindP (nilO (T 0)) fun v1 =>
bindP (faddrO 3 v1) fun v2 =>
bindP (aload H none v2) fun v3 =>
bindP (nilO (T 0)) fun v4 =>
bindP (faddrO 1 v4) fun v5 =>
(apartB v5 (T 4) && true) = true ∧
bindP (aload H none v5) fun v6 =>
bindP (astore lim H 1 (T 4) v3) fun H7 =>
bindP (astore lim H7 1 (T 5) v6) fun H8 =>
bindP (aload H8 none (T 4)) fun v7 =>
bindP (aload H8 none (T 5)) fun v8 =>
K (.tup [v7, v8]) H8) := by kernel_rfl

theorem A60 (R : Caller) (lim n : Nat) (k : Kt) (T : Tm) (H : Heap) : execW R lim n 43 f60A T H k = (
bindP (astore lim (H.push (.cells z0)) 13 (.ptr (some (H.next, 0))) (T 14)) fun H1 =>
k .norm (setT T 7 (.ptr (some (H.next, 0)))) H1) := by kernel_rfl

theorem B60 (R : Caller) (lim n : Nat) (k : Ex → Heap → Prop) (T : Tm) (H : Heap) : execW R lim n 43 f60B T H (fun ex _ H => k ex H) = (
bindP (faddrO 0 (T 7)) fun v1 =>
bindP (aload H none v1) fun v2 =>
bindP (aload H none (T 3)) fun v3 =>
bindP (abin .leq v2 v3) fun v4 =>
bindP (gd (some (v4, true)) (faddrO 2 (T 7))) fun v5 =>
bindP (gd (some (v4, true)) (aload H none v5)) fun v6 =>
bindP (gd (some (v4, true)) (abin .eql v6 (.int .u8 2))) fun v7 =>
bindP (pickO v4 v7 (.bool false)) fun v8 =>
bindP (gd (some (v8, true)) (faddrO 12 (T 7))) fun v9 =>
bindP (gd (some (v8, true)) (aload H none v9)) fun v10 =>
bindP (gd (some (v8, true)) (alen true v10)) fun v11 =>
bindP (gd (some (v8, true)) (abin .eql v11 (.int .i64 1))) fun v12 =>
bindP (pickO v8 v12 (.bool false)) fun v13 =>
bindP (boolOf v13) fun b14 =>
(b14 = true → (bindP (faddrO 12 (T 7)) fun v15 =>
bindP (aload H none v15) fun v16 =>
bindP (aindexStr v16 (.int .i64 0)) fun v17 =>
bindP (faddrO 0 (T 7)) fun v18 =>
(apartB v18 (T 4) && true) = true ∧
bindP (aload H none v18) fun v19 =>
bindP (astore lim H 1 (T 4) v17) fun H20 =>
bindP (astore lim H20 1 (T 5) v19) fun H21 =>
k .ret H21)) ∧
(b14 = false → k .norm H)) := by kernel_rfl

/-- Does an entry tell members? -/
def tells (i : Nat) (e : Ent) : Bool := decide (e.idx ≤ i) && (decide (e.kind = 2) && decide (e.body.length = 1))

/-- The blocks that the rounds look at. -/
structure RngAt (H : Heap) (b b3 b4 b5 bx i : Nat) (w : AVal) (es : List Ent) (l : List AVal) : Prop where
  loop : H.get b = some (.loop ⟨.ready, none, l, [13, 14], f60A, f60B⟩)
  c3 : H.cells b3 = some [.int .u64 (i : Int)]
  c4 : H.cells b4 = some [.int .u8 0]
  c5 : H.cells b5 = some [.int .u64 0]
  cx : H.cells bx = some [w]
  es : Es H w es
  n3 : b3 ≠ b
  n4 : b4 ≠ b
  n5 : b5 ≠ b
  nx : bx ≠ b
  n45 : b4 ≠ b5
  nw : ∀ c, slBlk w = some c → c ≠ b

/-- What the rounds have come to. -/
def RngEnd (Hs : Heap) (b b4 b5 : Nat) (l : List AVal) (r : Option Ent) (H' : Heap) : Prop :=
  match r with
  | none => H'.get b = some (.loop ⟨.ready, none, l, [13, 14], f60A, f60B⟩) ∧ Fram (fun c => c = b) Hs H'
  | some e => (∃ x, e.body = [x] ∧ H'.cells b4 = some [.int .u8 (x.toNat : Int)]) ∧ H'.cells b5 = some [.int .u64 (e.idx : Int)] ∧ H'.get b = some (.loop ⟨.done, some .ret, l, [13, 14], f60A, f60B⟩) ∧ Fram (fun c => c = b ∨ c = b4 ∨ c = b5) Hs H'

theorem get_set_ne {H : Heap} {b c : Nat} {x : Blk} (h : c ≠ b) : (H.set b x).get c = H.get c := Heap.get_set_other _ _ _ _ h

theorem rounds60 {n lim : Nat} {K : AVal → Heap → Prop} {Hs : Heap} {b b3 b4 b5 bx i : Nat} {w : AVal} {es : List Ent} {l : List AVal} (hl : l.length = 43) (hl3 : l.getD 3 und = .ptr (some (b3, 0))) (hl4 : l.getD 4 und = .ptr (some (b4, 0))) (hl5 : l.getD 5 und = .ptr (some (b5, 0)))
    (hb : lim ≤ b) (hb4 : lim ≤ b4) (hb5 : lim ≤ b5) (hle : es.length ≤ 1000000) (hbs : b < Hs.next) {r : Option Ent} (hK : ∀ H', RngEnd Hs b b4 b5 l r H' → K (.tup []) H') :
    ∀ (j k : Nat) (H : Heap), RngAt H b b3 b4 b5 bx i w es l → Fram (fun c => c = b) Hs H → lim ≤ H.next → k < j → k ≤ es.length → r = (es.take k).reverse.find? (tells i) →
      F78_l0 (Ahs.runT ap (n + 1)) lim (n + 1) K j (.yl b) (.ptr (some (bx, 0))) (.int .i64 ((k : Int) - 1)) H
  | 0, k, H, _, _, _, hj, _, _ => by omega
  | j + 1, k, H, hR, hF, hlim, hj, hk, hr => by
    show F78_s0 _ _ _ _ (F78_l0 _ _ _ _ j) _ _ _ H
    unfold F78_s0 F78_j0
    cases k with
    | zero =>
      have hd : decide ((0 : Int) ≤ 0 - 1) = false := rfl
      rw [List.take_zero] at hr
      simp at hr
      subst hr
      (repeat (first | (with_reducible apply bindP_intro; (focus (first | with_reducible rfl | (simp only [walkR, get0, getS, Nat.zero_add, Nat.add_zero, Bool.not_true, Bool.not_false, decide_true, decide_false, reduceIte, and_self, Bool.false_eq_true, hd] <;> with_reducible rfl)))) | (with_reducible apply bind2_intro; (focus (first | with_reducible rfl | (simp only [walkR, get0, getS, Nat.zero_add, Nat.add_zero, Bool.not_true, Bool.not_false, decide_true, decide_false, reduceIte, and_self, Bool.false_eq_true, hd] <;> with_reducible rfl)))) | with_reducible apply cond_t | with_reducible apply cond_f))
      exact hK H ⟨hR.loop, hF⟩
    | succ k =>
      have h1 : k < es.length := by omega
      have hkk : ((k + 1 : Nat) : Int) - 1 = (k : Int) := by omega
      have hd : decide ((0 : Int) ≤ (k : Int)) = true := dT (by omega)
      have hw : IntKind.i64.wrap ((k : Int) - 1) = (k : Int) - 1 := wrap_i64 (by omega) (by omega)
      have hrr : (es.take (k + 1)).reverse.find? (tells i) = if tells i es[k] = true then some es[k] else (es.take k).reverse.find? (tells i) := by
        rw [List.take_add_one, List.getElem?_eq_getElem h1]
        simp only [Option.toList_some, List.reverse_append, List.reverse_cons, List.reverse_nil, List.nil_append, List.cons_append, List.find?_cons]
        cases tells i es[k] <;> rfl
      rw [hrr] at hr
      have n1 : (H.push (.cells (enc es[k]))).next = H.next + 1 := Heap.next_push _ _
      have hbH : b < H.next := by have := hF.next; omega
      have c3lt := Heap.cells_lt hR.c3
      have c4lt := Heap.cells_lt hR.c4
      have c5lt := Heap.cells_lt hR.c5
      -- the round
      generalize hH1 : (H.push (.cells (enc es[k]))).set b (.loop ⟨.busy, none, l, [13, 14], f60A, f60B⟩) = H1
      have f1 : Fram (fun c => c = b) H H1 := by rw [← hH1]; exact (Fram.of (.push _ _)).set' (.inl rfl)
      have l1 : H1.next = H.next + 1 := by rw [← hH1, Heap.next_set, n1]
      have g1 : H1.get b = some (.loop ⟨.busy, none, l, [13, 14], f60A, f60B⟩) := by rw [← hH1]; exact Heap.get_set_same _ _ _ (by omega)
      have ce : H1.cells H.next = some (enc es[k]) := by rw [← hH1]; exact cells_set_other (cells_push_new _ _) (by omega)
      have x3 := f1.cells hR.c3 hR.n3
      have x4 := f1.cells hR.c4 hR.n4
      have x5 := f1.cells hR.c5 hR.n5
      have round : ∃ e H2, (if tells i es[k] = true then e = .ret ∧ H2.get b = H1.get b ∧ (∃ x, es[k].body = [x] ∧ H2.cells b4 = some [.int .u8 (x.toNat : Int)]) ∧ H2.cells b5 = some [.int .u64 (es[k].idx : Int)] ∧ Fram (fun c => c = b4 ∨ c = b5) H1 H2 else e = .norm ∧ H2 = H1) ∧
          H2.get b = some (.loop ⟨.busy, none, l, [13, 14], f60A, f60B⟩) ∧ Ahs.runT ap (n + 1) lim (.yl b) [.int .i64 (k : Int), .agg (enc es[k])] H = some (roundEnd b l [13, 14] f60A f60B H2 e) := by
        refine round_run hR.loop hb rfl hl (by kernel_rfl) (by kernel_rfl) ?_
        have t14 : tmT (putAll l [13, 14] [.int .i64 (k : Int), .agg (enc es[k])]) 14 = .agg (enc es[k]) := by
          simp only [putAll, List.zip_cons_cons, List.zip_nil_right, List.foldl_cons, List.foldl_nil, tmT]
          rw [getD_set _ _ _ _ (by rw [List.length_set]; omega), if_pos rfl]
        have tk : ∀ m, m < 13 → tmT (putAll l [13, 14] [.int .i64 (k : Int), .agg (enc es[k])]) m = l.getD m und := by
          intro m hm
          simp only [putAll, List.zip_cons_cons, List.zip_nil_right, List.foldl_cons, List.foldl_nil, tmT]
          rw [getD_set _ _ _ _ (by rw [List.length_set]; omega), if_neg (by omega), getD_set _ _ _ _ (by omega), if_neg (by omega)]
        generalize tmT (putAll l [13, 14] [.int .i64 (k : Int), .agg (enc es[k])]) = T at t14 tk
        rw [A60, t14]
        (repeat (first | (with_reducible apply bindP_intro; (focus (first | with_reducible rfl | (simp only [walkR, get0, getS, Nat.zero_add, Nat.add_zero, Bool.not_true, Bool.not_false, decide_true, decide_false, reduceIte, and_self, Bool.false_eq_true, st13 hlim] <;> with_reducible rfl)))) | (with_reducible apply bind2_intro; (focus (first | with_reducible rfl | (simp only [walkR, get0, getS, Nat.zero_add, Nat.add_zero, Bool.not_true, Bool.not_false, decide_true, decide_false, reduceIte, and_self, Bool.false_eq_true, st13 hlim] <;> with_reducible rfl)))) | with_reducible apply cond_t | with_reducible apply cond_f))
        refine ⟨rfl, by rw [Heap.get_push_old _ _ _ (by omega)]; exact hR.loop, ?_⟩
        rw [hH1, B60]
        have s3 : (setT T 7 (.ptr (some (H.next, 0)))) 3 = .ptr (some (b3, 0)) := (tk 3 (by omega)).trans hl3
        have s4 : (setT T 7 (.ptr (some (H.next, 0)))) 4 = .ptr (some (b4, 0)) := (tk 4 (by omega)).trans hl4
        have s5 : (setT T 7 (.ptr (some (H.next, 0)))) 5 = .ptr (some (b5, 0)) := (tk 5 (by omega)).trans hl5
        have s7 : (setT T 7 (.ptr (some (H.next, 0)))) 7 = .ptr (some (H.next, 0)) := rfl
        rw [s3, s4, s5, s7]
        unfold tells
        by_cases p1 : es[k].idx ≤ i
        · have d1 : decide (((es[k].idx : Nat) : Int) ≤ (i : Int)) = true := dT (by omega)
          rw [dT p1, Bool.true_and]
          by_cases p2 : es[k].kind = 2
          · have d2 : (((es[k].kind : Nat) : Int) == 2) = true := by rw [p2]; rfl
            rw [dT p2, Bool.true_and]
            by_cases p3 : es[k].body.length = 1
            · have d3 : (((es[k].body.length : Nat) : Int) == 1) = true := by rw [p3]; rfl
              obtain ⟨x, hx⟩ := List.length_eq_one_iff.1 p3
              have hidx : aindexStr (.str es[k].body) (.int .i64 0) = some (.int .u8 (x.toNat : Int)) := by rw [hx]; rfl
              have hap : (apartB (.ptr (some (H.next, 0))) (.ptr (some (b4, 0))) && true) = true := by
                simp only [apartB, blkOf, Bool.and_true, Bool.not_eq_true', beq_eq_false_iff_ne]
                omega
              have st4 : astore lim H1 1 (.ptr (some (b4, 0))) (.int .u8 (x.toNat : Int)) = some (H1.set b4 (.cells [.int .u8 (x.toNat : Int)])) := astore_cell x4 hb4 rfl rfl (by show 0 < 1; omega) rfl
              have st5 : astore lim (H1.set b4 (.cells [.int .u8 (x.toNat : Int)])) 1 (.ptr (some (b5, 0))) (.int .u64 (es[k].idx : Int)) = some ((H1.set b4 (.cells [.int .u8 (x.toNat : Int)])).set b5 (.cells [.int .u64 (es[k].idx : Int)])) :=
                astore_cell (cells_set_other x5 (Ne.symm hR.n45)) hb5 rfl rfl (by show 0 < 1; omega) rfl
              (repeat (first | (with_reducible apply bindP_intro; (focus (first | with_reducible rfl | (simp only [walkR, get0, getS, Nat.zero_add, Nat.add_zero, Bool.not_true, Bool.not_false, decide_true, decide_false, reduceIte, and_self, Bool.false_eq_true, aload_one ce, enc0, aload_one x3, d1, enc2, d2, enc12, d3, hidx] <;> with_reducible rfl)))) | (with_reducible apply bind2_intro; (focus (first | with_reducible rfl | (simp only [walkR, get0, getS, Nat.zero_add, Nat.add_zero, Bool.not_true, Bool.not_false, decide_true, decide_false, reduceIte, and_self, Bool.false_eq_true, aload_one ce, enc0, aload_one x3, d1, enc2, d2, enc12, d3, hidx] <;> with_reducible rfl)))) | with_reducible apply cond_t | with_reducible apply cond_f))
              refine ⟨hap, ?_⟩
              (repeat (first | (with_reducible apply bindP_intro; (focus (first | with_reducible rfl | (simp only [walkR, get0, getS, Nat.zero_add, Nat.add_zero, Bool.not_true, Bool.not_false, decide_true, decide_false, reduceIte, and_self, Bool.false_eq_true, aload_one ce, enc0, st4, st5] <;> with_reducible rfl)))) | (with_reducible apply bind2_intro; (focus (first | with_reducible rfl | (simp only [walkR, get0, getS, Nat.zero_add, Nat.add_zero, Bool.not_true, Bool.not_false, decide_true, decide_false, reduceIte, and_self, Bool.false_eq_true, aload_one ce, enc0, st4, st5] <;> with_reducible rfl)))) | with_reducible apply cond_t | with_reducible apply cond_f))
              rw [dT p3]
              have hgb : ((H1.set b4 (.cells [.int .u8 (x.toNat : Int)])).set b5 (.cells [.int .u64 (es[k].idx : Int)])).get b = H1.get b := by
                rw [get_set_ne (Ne.symm hR.n5), get_set_ne (Ne.symm hR.n4)]
              refine ⟨by rw [hgb]; exact g1, ?_⟩
              simp only [if_true]
              exact ⟨trivial, hgb, ⟨x, hx, cells_set_other (cells_set_same (by omega)) hR.n45⟩, cells_set_same (by rw [Heap.next_set]; omega), ((Fram.refl _ _).set' (.inl (.inl rfl))).set' (.inl (.inr rfl))⟩
            · have d3 : (((es[k].body.length : Nat) : Int) == 1) = false := by rw [Bool.eq_false_iff]; simp; omega
              (repeat (first | (with_reducible apply bindP_intro; (focus (first | with_reducible rfl | (simp only [walkR, get0, getS, Nat.zero_add, Nat.add_zero, Bool.not_true, Bool.not_false, decide_true, decide_false, reduceIte, and_self, Bool.false_eq_true, aload_one ce, enc0, aload_one x3, d1, enc2, d2, enc12, d3] <;> with_reducible rfl)))) | (with_reducible apply bind2_intro; (focus (first | with_reducible rfl | (simp only [walkR, get0, getS, Nat.zero_add, Nat.add_zero, Bool.not_true, Bool.not_false, decide_true, decide_false, reduceIte, and_self, Bool.false_eq_true, aload_one ce, enc0, aload_one x3, d1, enc2, d2, enc12, d3] <;> with_reducible rfl)))) | with_reducible apply cond_t | with_reducible apply cond_f))
              rw [dF p3]
              exact ⟨g1, by simp⟩
          · have d2 : (((es[k].kind : Nat) : Int) == 2) = false := by rw [Bool.eq_false_iff]; simp; omega
            (repeat (first | (with_reducible apply bindP_intro; (focus (first | with_reducible rfl | (simp only [walkR, get0, getS, Nat.zero_add, Nat.add_zero, Bool.not_true, Bool.not_false, decide_true, decide_false, reduceIte, and_self, Bool.false_eq_true, aload_one ce, enc0, aload_one x3, d1, enc2, d2] <;> with_reducible rfl)))) | (with_reducible apply bind2_intro; (focus (first | with_reducible rfl | (simp only [walkR, get0, getS, Nat.zero_add, Nat.add_zero, Bool.not_true, Bool.not_false, decide_true, decide_false, reduceIte, and_self, Bool.false_eq_true, aload_one ce, enc0, aload_one x3, d1, enc2, d2] <;> with_reducible rfl)))) | with_reducible apply cond_t | with_reducible apply cond_f))
            rw [dF p2, Bool.false_and]
            exact ⟨g1, by simp⟩
        · have d1 : decide (((es[k].idx : Nat) : Int) ≤ (i : Int)) = false := dF (by omega)
          (repeat (first | (with_reducible apply bindP_intro; (focus (first | with_reducible rfl | (simp only [walkR, get0, getS, Nat.zero_add, Nat.add_zero, Bool.not_true, Bool.not_false, decide_true, decide_false, reduceIte, and_self, Bool.false_eq_true, aload_one ce, enc0, aload_one x3, d1] <;> with_reducible rfl)))) | (with_reducible apply bind2_intro; (focus (first | with_reducible rfl | (simp only [walkR, get0, getS, Nat.zero_add, Nat.add_zero, Bool.not_true, Bool.not_false, decide_true, decide_false, reduceIte, and_self, Bool.false_eq_true, aload_one ce, enc0, aload_one x3, d1] <;> with_reducible rfl)))) | with_reducible apply cond_t | with_reducible apply cond_f))
          rw [dF p1, Bool.false_and]
          exact ⟨g1, by simp⟩
      obtain ⟨e, H2, q1, q2, q3⟩ := round
      have hcall : callvO (Ahs.runT ap (n + 1)) lim (.yl b) [.int .i64 (k : Int), .agg (enc es[k])] H = some (roundEnd b l [13, 14] f60A f60B H2 e) := q3
      by_cases ht : tells i es[k] = true
      · rw [if_pos ht] at q1 hr
        obtain ⟨rfl, q4, q5, q6, q7⟩ := q1
        subst hr
        (repeat (first | (with_reducible apply bindP_intro; (focus (first | with_reducible rfl | (simp only [walkR, get0, getS, Nat.zero_add, Nat.add_zero, Bool.not_true, Bool.not_false, decide_true, decide_false, reduceIte, and_self, Bool.false_eq_true, hkk, hd, aload_one hR.cx, hR.es.addr h1, hR.es.load h1, hcall, roundEnd] <;> with_reducible rfl)))) | (with_reducible apply bind2_intro; (focus (first | with_reducible rfl | (simp only [walkR, get0, getS, Nat.zero_add, Nat.add_zero, Bool.not_true, Bool.not_false, decide_true, decide_false, reduceIte, and_self, Bool.false_eq_true, hkk, hd, aload_one hR.cx, hR.es.addr h1, hR.es.load h1, hcall, roundEnd] <;> with_reducible rfl)))) | with_reducible apply cond_t | with_reducible apply cond_f))
        refine hK _ ⟨?_, ?_, Heap.get_set_same _ _ _ (by have := q7.next; omega), ?_⟩
        · obtain ⟨x, r1, r2⟩ := q5
          exact ⟨x, r1, cells_set_other r2 hR.n4⟩
        · exact cells_set_other q6 hR.n5
        · exact (((hF.trans f1 (fun c _ e => e)).weaken (fun c _ e => .inl e)).trans q7 (fun c _ e => .inr e)).set' (.inl (.inl rfl))
      · rw [if_neg ht] at q1 hr
        obtain ⟨rfl, rfl⟩ := q1
        (repeat (first | (with_reducible apply bindP_intro; (focus (first | with_reducible rfl | (simp only [walkR, get0, getS, Nat.zero_add, Nat.add_zero, Bool.not_true, Bool.not_false, decide_true, decide_false, reduceIte, and_self, Bool.false_eq_true, hkk, hd, aload_one hR.cx, hR.es.addr h1, hR.es.load h1, hcall, roundEnd, hw] <;> with_reducible rfl)))) | (with_reducible apply bind2_intro; (focus (first | with_reducible rfl | (simp only [walkR, get0, getS, Nat.zero_add, Nat.add_zero, Bool.not_true, Bool.not_false, decide_true, decide_false, reduceIte, and_self, Bool.false_eq_true, hkk, hd, aload_one hR.cx, hR.es.addr h1, hR.es.load h1, hcall, roundEnd, hw] <;> with_reducible rfl)))) | with_reducible apply cond_t | with_reducible apply cond_f))
        have f2 : Fram (fun c => c = b) H (H2.set b (.loop ⟨.ready, none, l, [13, 14], f60A, f60B⟩)) := f1.set' (.inl rfl)
        refine rounds60 hl hl3 hl4 hl5 hb hb4 hb5 hle hbs hK j k _ ⟨Heap.get_set_same _ _ _ (by omega), f2.cells hR.c3 hR.n3, f2.cells hR.c4 hR.n4, f2.cells hR.c5 hR.n5, f2.cells hR.cx hR.nx, Sl.frame f2 hR.es (fun c hc => hR.nw c hc), hR.n3, hR.n4, hR.n5, hR.nx, hR.n45, hR.nw⟩ (hF.trans f2 (fun c _ e => e)) (by rw [Heap.next_set]; omega) (by omega) (by omega) hr

def pickM (m i : Nat) : Option Ent → Nat × Nat
  | some e => ((e.body.head?.map (·.toNat)).getD 0, e.idx)
  | none => (m, i)

/-- The members up to an index, and of which entry they are. -/
def upToP (L : Lg) (i : Nat) : Nat × Nat := pickM L.mem L.idx (L.es.reverse.find? (tells i))

theorem log60 {n lim : Nat} {H : Heap} {bL : Nat} {v : AVal} {L : Lg} (h : LogAt H bL v L) (hl : lim ≤ H.next) (hle : L.es.length ≤ 1000000) (hn : L.es.length + 5 ≤ n) {i : Nat} :
    ∃ r H', Ahs.runT ap (n + 3) lim (.fn 60) [ptr bL, .int .u64 (i : Int)] H = some (r, H') ∧ r = .tup [.int .u8 ((upToP L i).1 : Int), .int .u64 ((upToP L i).2 : Int)] ∧ Keeps2 H H' := by
  refine run_of_W a60 (by kernel_rfl) (by kernel_rfl) ?_
  show execW _ _ _ 43 f60.body (argT [ptr bL, .int .u64 (i : Int)]) H (retW [(.cell 4 none), (.cell 5 none)] _)
  rw [e60]
  have hone : ((AVal.int .u64 (i : Int)).cells.all fun x => x.one) = true := rfl
  have hcel : (AVal.int .u64 (i : Int)).cells = [.int .u64 (i : Int)] := rfl
  generalize hH2 : H.push (.cells [.int .u64 (i : Int)]) = H2
  generalize hH3 : H2.push (.cells [(.int .u8 0)]) = H3
  generalize hH4 : H3.push (.cells [(.int .u64 0)]) = H4
  have k2 : Keeps2 H H2 := by rw [← hH2]; exact .push _ _
  have k3 : Keeps2 H2 H3 := by rw [← hH3]; exact .push _ _
  have k4 : Keeps2 H3 H4 := by rw [← hH4]; exact .push _ _
  have n2 : H2.next = H.next + 1 := by rw [← hH2, Heap.next_push]
  have n3 : H3.next = H.next + 2 := by rw [← hH3, Heap.next_push, n2]
  have n4 : H4.next = H.next + 3 := by rw [← hH4, Heap.next_push, n3]
  have kk := (k2.trans k3).trans k4
  have h4 := h.keep kk
  obtain ⟨bv, o1, o2⟩ := h4.own
  have hv := o1.one
  have s1 : (if ((AVal.int .u64 (i : Int)).cells.all fun x => x.one) = true then some (AVal.ptr (some (H.next, 0)), H.push (.cells (AVal.int .u64 (i : Int)).cells)) else none) = some (.ptr (some (H.next, 0)), H2) := by
    rw [if_pos hone, hcel, hH2]
  refine bind2_intro s1 ?_
  rw [hH3, hH4]
  have hlt := h.lt
  have hvo : (if (v.cells.all fun x => x.one) = true then some (AVal.ptr (some (H4.next, 0)), H4.push (.cells v.cells)) else none) = some (.ptr (some (H4.next, 0)), H4.push (.cells [v])) := by
    rw [hv.2]
    simp [hv.1]
  have r75 : Ahs.runT ap (n + 2) lim (.fn 75) [v] H4 = some (.fn 78 [] [.ptr (some (H4.next, 0))], H4.push (.cells [v])) := by
    refine run_eqn (F75_run (n := n + 1) a75 ?_)
    unfold F75
    (repeat (first | (with_reducible apply bindP_intro; (focus (first | with_reducible rfl | (simp only [walkR, get0, getS, Nat.zero_add, Nat.add_zero, Bool.not_true, Bool.not_false, decide_true, decide_false, reduceIte, and_self, Bool.false_eq_true, hvo] <;> with_reducible rfl)))) | (with_reducible apply bind2_intro; (focus (first | with_reducible rfl | (simp only [walkR, get0, getS, Nat.zero_add, Nat.add_zero, Bool.not_true, Bool.not_false, decide_true, decide_false, reduceIte, and_self, Bool.false_eq_true, hvo] <;> with_reducible rfl)))) | with_reducible apply cond_t | with_reducible apply cond_f))
    exact ⟨rfl, rfl⟩
  generalize hH5 : H4.push (.cells [v]) = H5 at r75
  have k5 : Keeps2 H4 H5 := by rw [← hH5]; exact .push _ _
  have n5 : H5.next = H.next + 4 := by rw [← hH5, Heap.next_push, n4]
  (repeat (first | (with_reducible apply bindP_intro; (focus (first | with_reducible rfl | (simp only [walkR, get0, getS, Nat.zero_add, Nat.add_zero, Bool.not_true, Bool.not_false, decide_true, decide_false, reduceIte, and_self, Bool.false_eq_true, aload_one h4.cells, r75] <;> with_reducible rfl)))) | (with_reducible apply bind2_intro; (focus (first | with_reducible rfl | (simp only [walkR, get0, getS, Nat.zero_add, Nat.add_zero, Bool.not_true, Bool.not_false, decide_true, decide_false, reduceIte, and_self, Bool.false_eq_true, aload_one h4.cells, r75] <;> with_reducible rfl)))) | with_reducible apply cond_t | with_reducible apply cond_f))
  -- the temporaries
  generalize hT : (setT (setT (setT (setT (setT (setT (setT (setT (argT [ptr bL, .int .u64 (i : Int)]) 3 (.ptr (some (H.next, 0)))) 4 (.ptr (some (H2.next, 0)))) 5 (.ptr (some (H3.next, 0)))) 8 (ptr bL)) 9 (.ptr (some (bL, 0)))) 10 (.ptr (some (bL, 4)))) 11 v) 12 (.fn 78 [] [.ptr (some (H4.next, 0))])) = T
  have t0 : T 0 = ptr bL := by rw [← hT]; rfl
  have t3 : T 3 = .ptr (some (H.next, 0)) := by rw [← hT]; rfl
  have t4 : T 4 = .ptr (some (H2.next, 0)) := by rw [← hT]; rfl
  have t5 : T 5 = .ptr (some (H3.next, 0)) := by rw [← hT]; rfl
  have t12 : T 12 = .fn 78 [] [.ptr (some (H4.next, 0))] := by rw [← hT]; rfl
  have lT : ∀ m, m < 43 → (listT 43 T).getD m und = T m := by
    intro m hm
    rw [List.getD_eq_getElem?_getD]
    simp [listT, hm]
  generalize hl' : listT 43 T = l at lT
  have hll : l.length = 43 := by rw [← hl']; simp [listT]
  -- the rounds
  generalize hH6 : H5.push (.loop ⟨.ready, none, l, [13, 14], f60A, f60B⟩) = H6
  have k6 : Keeps2 H5 H6 := by rw [← hH6]; exact .push _ _
  have n6 : H6.next = H.next + 5 := by rw [← hH6, Heap.next_push, n5]
  have k46 := k5.trans k6
  have k06 := kk.trans k46
  have hes6 : Es H6 v L.es := h.es.keep k06
  have hR : RngAt H6 H5.next H.next H2.next H3.next H4.next i v L.es l :=
    ⟨by rw [← hH6]; exact Heap.get_push_new _ _, k46.cells (k4.cells (k3.cells (by rw [← hH2]; exact cells_push_new _ _))), k46.cells (k4.cells (by rw [← hH3]; exact cells_push_new _ _)), k46.cells (by rw [← hH4]; exact cells_push_new _ _), k6.cells (by rw [← hH5]; exact cells_push_new _ _), hes6,
      by omega, by omega, by omega, by omega, by omega, fun c hc => by have := hlt c (.inr hc); omega⟩
  have r78 : ∃ r H7, Ahs.runT ap (n + 2) lim (.fn 78) [.yl H5.next, .ptr (some (H4.next, 0))] H6 = some (r, H7) ∧ RngEnd H6 H5.next H2.next H3.next l (L.es.reverse.find? (tells i)) H7 := by
    refine F78_run (n := n + 1) a78 ?_
    unfold F78
    have hw : IntKind.i64.wrap ((L.es.length : Int) - 1) = (L.es.length : Int) - 1 := wrap_i64 (by omega) (by omega)
    (repeat (first | (with_reducible apply bindP_intro; (focus (first | with_reducible rfl | (simp only [walkR, get0, getS, Nat.zero_add, Nat.add_zero, Bool.not_true, Bool.not_false, decide_true, decide_false, reduceIte, and_self, Bool.false_eq_true, aload_one hR.cx, hes6.len, hw] <;> with_reducible rfl)))) | (with_reducible apply bind2_intro; (focus (first | with_reducible rfl | (simp only [walkR, get0, getS, Nat.zero_add, Nat.add_zero, Bool.not_true, Bool.not_false, decide_true, decide_false, reduceIte, and_self, Bool.false_eq_true, aload_one hR.cx, hes6.len, hw] <;> with_reducible rfl)))) | with_reducible apply cond_t | with_reducible apply cond_f))
    refine rounds60 (n := n) (Hs := H6) (r := L.es.reverse.find? (tells i)) hll ((lT 3 (by omega)).trans t3) ((lT 4 (by omega)).trans t4) ((lT 5 (by omega)).trans t5) (by omega) (by omega) (by omega) hle (by omega) (fun H' hE => hE) (n + 1) L.es.length H6 hR (.refl _ _) (by omega) (by omega) (Nat.le_refl _) (by rw [List.take_length])
  obtain ⟨r, H7, g1, g2⟩ := r78
  have hg : St.ev l (.tmp 12) = .fn 78 [] [.ptr (some (H4.next, 0))] := (lT 12 (by omega)).trans t12
  have hpl : (f60A.plain && f60B.plain) = true := by kernel_rfl
  have hcall : Ahs.runT ap (n + 2) lim (.fn 78) ([] ++ [.yl H5.next] ++ [.ptr (some (H4.next, 0))]) (H5.push (.loop ⟨.ready, none, l, [13, 14], f60A, f60B⟩)) = some (r, H7) := by rw [hH6]; exact g1
  have hn7 : H6.next ≤ H7.next := by
    cases hf : L.es.reverse.find? (tells i) with
    | none => rw [hf] at g2; exact g2.2.next
    | some e => rw [hf] at g2; exact g2.2.2.2.next
  unfold upToP
  cases hf : L.es.reverse.find? (tells i) with
  | none =>
    rw [hf] at g2
    obtain ⟨q1, q2⟩ := g2
    refine ⟨.norm, l, H7.set H5.next .dead, exec_ranges hpl hg hcall q1 (.inl ⟨rfl, rfl, rfl⟩), hll, ?_⟩
    show execW _ _ _ 43 f60post (fun i => l.getD i und) (H7.set H5.next .dead) (retW [(.cell 4 none), (.cell 5 none)] _)
    rw [post60, lT 0 (by omega), lT 4 (by omega), lT 5 (by omega), t0, t4, t5]
    have fr : Fram (fun c => c = H5.next) H6 (H7.set H5.next .dead) := q2.set' (.inl rfl)
    have cL := fr.cells (k06.cells h.cells) (fun e => by have := hlt bL (.inl rfl); omega)
    have c4 := fr.cells hR.c4 hR.n4
    have c5 := fr.cells hR.c5 hR.n5
    have hap : (apartB (.ptr (some (bL, 1))) (.ptr (some (H2.next, 0))) && true) = true := by
      simp only [apartB, blkOf, Bool.and_true, Bool.not_eq_true', beq_eq_false_iff_ne]
      have := hlt bL (.inl rfl); omega
    generalize H7.set H5.next .dead = H8 at fr cL c4 c5
    have st4 : astore lim H8 1 (.ptr (some (H2.next, 0))) (.int .u8 (L.mem : Int)) = some (H8.set H2.next (.cells [.int .u8 (L.mem : Int)])) := astore_cell c4 (by omega) rfl rfl (by show 0 < 1; omega) rfl
    have st5 : astore lim (H8.set H2.next (.cells [.int .u8 (L.mem : Int)])) 1 (.ptr (some (H3.next, 0))) (.int .u64 (L.idx : Int)) = some ((H8.set H2.next (.cells [.int .u8 (L.mem : Int)])).set H3.next (.cells [.int .u64 (L.idx : Int)])) :=
      astore_cell (cells_set_other c5 (by omega)) (by omega) rfl rfl (by show 0 < 1; omega) rfl
    have m8 := fr.next
    have x4 : ((H8.set H2.next (.cells [.int .u8 (L.mem : Int)])).set H3.next (.cells [.int .u64 (L.idx : Int)])).cells H2.next = some [.int .u8 (L.mem : Int)] := cells_set_other (cells_set_same (by omega)) (by omega)
    have x5 : ((H8.set H2.next (.cells [.int .u8 (L.mem : Int)])).set H3.next (.cells [.int .u64 (L.idx : Int)])).cells H3.next = some [.int .u64 (L.idx : Int)] := cells_set_same (by rw [Heap.next_set]; omega)
    (repeat (first | (with_reducible apply bindP_intro; (focus (first | with_reducible rfl | (simp only [walkR, get0, getS, Nat.zero_add, Nat.add_zero, Bool.not_true, Bool.not_false, decide_true, decide_false, reduceIte, and_self, Bool.false_eq_true, aload_one cL] <;> with_reducible rfl)))) | (with_reducible apply bind2_intro; (focus (first | with_reducible rfl | (simp only [walkR, get0, getS, Nat.zero_add, Nat.add_zero, Bool.not_true, Bool.not_false, decide_true, decide_false, reduceIte, and_self, Bool.false_eq_true, aload_one cL] <;> with_reducible rfl)))) | with_reducible apply cond_t | with_reducible apply cond_f))
    refine ⟨hap, ?_⟩
    (repeat (first | (with_reducible apply bindP_intro; (focus (first | with_reducible rfl | (simp only [walkR, get0, getS, Nat.zero_add, Nat.add_zero, Bool.not_true, Bool.not_false, decide_true, decide_false, reduceIte, and_self, Bool.false_eq_true, aload_one cL, st4, st5, aload_one x4, aload_one x5] <;> with_reducible rfl)))) | (with_reducible apply bind2_intro; (focus (first | with_reducible rfl | (simp only [walkR, get0, getS, Nat.zero_add, Nat.add_zero, Bool.not_true, Bool.not_false, decide_true, decide_false, reduceIte, and_self, Bool.false_eq_true, aload_one cL, st4, st5, aload_one x4, aload_one x5] <;> with_reducible rfl)))) | with_reducible apply cond_t | with_reducible apply cond_f))
    refine ⟨rfl, ?_⟩
    have f0 : Fram (fun c => c = H5.next) H H8 := (Fram.of k06).trans fr (fun c _ e => e)
    exact Fram.keeps (.refl H) ((f0.set' (b := H2.next) (.inr (by omega))).set' (b := H3.next) (.inr (by omega))) (fun c hc e => by omega)
  | some e =>
    rw [hf] at g2
    obtain ⟨⟨x, hx, q1⟩, q2, q3, q4⟩ := g2
    refine ⟨.ret, l, H7.set H5.next .dead, exec_ranges hpl hg hcall q3 (.inr ⟨rfl, rfl⟩), hll, ?_⟩
    show bindP (aload (H7.set H5.next .dead) none (l.getD 4 und)) fun v => bindP (aload (H7.set H5.next .dead) none (l.getD 5 und)) fun u => _
    rw [lT 4 (by omega), lT 5 (by omega), t4, t5]
    have c4 : (H7.set H5.next .dead).cells H2.next = some [.int .u8 (x.toNat : Int)] := cells_set_other q1 (by omega)
    have c5 : (H7.set H5.next .dead).cells H3.next = some [.int .u64 (e.idx : Int)] := cells_set_other q2 (by omega)
    (repeat (first | (with_reducible apply bindP_intro; (focus (first | with_reducible rfl | (simp only [walkR, get0, getS, Nat.zero_add, Nat.add_zero, Bool.not_true, Bool.not_false, decide_true, decide_false, reduceIte, and_self, Bool.false_eq_true, aload_one c4, aload_one c5] <;> with_reducible rfl)))) | (with_reducible apply bind2_intro; (focus (first | with_reducible rfl | (simp only [walkR, get0, getS, Nat.zero_add, Nat.add_zero, Bool.not_true, Bool.not_false, decide_true, decide_false, reduceIte, and_self, Bool.false_eq_true, aload_one c4, aload_one c5] <;> with_reducible rfl)))) | with_reducible apply cond_t | with_reducible apply cond_f))
    refine ⟨?_, ?_⟩
    · show oneOr _ = .tup [.int .u8 (((e.body.head?.map (·.toNat)).getD 0 : Nat) : Int), .int .u64 (e.idx : Int)]
      rw [hx]; rfl
    · exact Fram.keeps (.refl H) (((Fram.of k06).trans q4 (fun c _ e => e)).set' (.inl (.inl rfl))) (fun c hc e => by omega)

end Go.Proofs.Ytpefhojmfcenfaa.logs
