/- level as a primitive. -/
import Derived.Test.YtnlimogbokkfpaaGreatRkLevel
set_option maxRecDepth 100000
set_option linter.unusedSimpArgs false
set_option linter.unusedVariables false
namespace Go.Proofs.YtnlimogbokkfpaaGreat.raft
open Go.Ahs

def zeros6 : List AVal := [(.int .u64 0), (.int .u64 0), (.int .u64 0), (.int .u64 0), (.int .u64 0), (.int .u64 0)]

/-- The heap behind the range: what is new, and hangs on the order, is dead. -/
def behind (f : FuncId) (es : List (AVal × AVal)) (own : Int) (j : Nat) (H : Heap) : Heap :=
  pushDead (2 * es.length) (H.push (.cells ((es.foldl (putE f) zeros6).set j (.int .u64 own))))

noncomputable def g121 (fp : Nat → Option AFn) (_ : Nat) (args : List AVal) (H : Heap) : Option (AVal × Heap) :=
  match args with
  | [.ptr (some (c, 0)), .int .u64 own, .fn f [] []] =>
    match H.cells c with
    | some cs => match cs[18]?, cs[0]? with
      | some m, some me => match mapEs H m, natOf me with
        | some es, some j => match es.all (entOK f) && apartE es && Nat.ble (j + 1) 6 && Nat.ble (es.length + 1) 39 with
          | true => match runFT fp 40 (behind f es own j H).next (.fn 21) [.ptr (some (c, 0))] (behind f es own j H) with
            | some (v1, W1) => match aload W1 (some 6) (.ptr (some (H.next, 0))) with
              | some v2 => match runFT fp 40 H.next (.fn 163) [v1, v2] W1 with
                | some (v, W2) => some (v, pushDead (W2.next - H.next) H)
                | none => none
              | none => none
            | none => none
          | false => none
        | _, _ => none
      | _, _ => none
    | none => none
  | _ => none

theorem g121_inv {fp : Nat → Option AFn} {lim : Nat} {args : List AVal} {H H' : Heap} {v : AVal} (h : g121 fp lim args H = some (v, H')) :
    ∃ c own f cs m me es j v1 W1 v2 W2, args = [.ptr (some (c, 0)), .int .u64 own, .fn f [] []] ∧ H.cells c = some cs ∧ cs[18]? = some m ∧ cs[0]? = some me ∧ mapEs H m = some es ∧ natOf me = some j ∧ es.all (entOK f) = true ∧ apartE es = true ∧ j < 6 ∧ es.length < 39 ∧
      runFT fp 40 (behind f es own j H).next (.fn 21) [.ptr (some (c, 0))] (behind f es own j H) = some (v1, W1) ∧ aload W1 (some 6) (.ptr (some (H.next, 0))) = some v2 ∧ runFT fp 40 H.next (.fn 163) [v1, v2] W1 = some (v, W2) ∧ H' = pushDead (W2.next - H.next) H := by
  unfold g121 at h
  split at h
  case h_2 => simp at h
  rename_i c own f
  split at h
  case h_2 => simp at h
  rename_i cs hcs
  split at h
  case h_2 => simp at h
  rename_i m me hm hme
  split at h
  case h_2 => simp at h
  rename_i es j hes hj
  split at h
  case h_2 => simp at h
  rename_i hok
  split at h
  case h_2 => simp at h
  rename_i v1 W1 h1
  split at h
  case h_2 => simp at h
  rename_i v2 h2
  split at h
  case h_2 => simp at h
  rename_i v' W2 h3
  simp only [Option.some.injEq, Prod.mk.injEq] at h
  obtain ⟨rfl, rfl⟩ := h
  simp only [Bool.and_eq_true] at hok
  obtain ⟨⟨⟨q1, q2⟩, q3⟩, q4⟩ := hok
  have q3 := Nat.le_of_ble_eq_true q3
  have q4 := Nat.le_of_ble_eq_true q4
  exact ⟨c, own, f, cs, m, me, es, j, v1, W1, v2, W2, rfl, hcs, hm, hme, hes, hj, q1, q2, by omega, by omega, h1, h2, h3, rfl⟩

theorem mapEs_some {H : Heap} {m : AVal} {es : List (AVal × AVal)} (h : mapEs H m = some es) : (m = .map none ∧ es = []) ∨ ∃ b clock, m = .map (some b) ∧ H.get b = some (.map es clock) ∧ b < H.next := by
  unfold mapEs at h
  split at h
  · simp at h; exact .inl ⟨rfl, h⟩
  · rename_i b
    split at h
    · rename_i es' cl hg
      simp at h; subst h
      refine .inr ⟨b, cl, rfl, hg, ?_⟩
      rcases Nat.lt_or_ge b H.next with g | g
      · exact g
      · rw [Heap.get_ge _ _ g] at hg; simp at hg
    · simp at h
  · simp at h

def isCode : AFn → Bool
  | .code _ => true
  | .prim _ => false
theorem lookup_code {l : List (Nat × AFn)} (h : l.all (fun p => isCode p.2) = true) : ∀ f af, l.lookup f = some af → isCode af = true := by
  induction l with
  | nil => intro f af h'; simp at h'
  | cons p l ih =>
    intro f af h'
    simp only [List.all_cons, Bool.and_eq_true] at h
    rw [List.lookup_cons] at h'
    split at h'
    · simp at h'; subst h'; exact h.1
    · exact ih h.2 f af h'
theorem fns_code : fns.all (fun p => isCode p.2) = true := by kernel_rfl
theorem up_ap : UpAp ap := fun f g h => by have := lookup_code fns_code f _ h; simp [isCode] at this

theorem mark_run {f : FuncId} {v z : AVal} (h : markOf f v = some z) {lim : Nat} (H : Heap) (hl : lim ≤ H.next) : ∃ x, Ahs.runT ap 40 lim (.fn f) [v] H = some (z, H.push x) := by
  unfold markOf at h
  split at h
  · rename_i a1 a2 a3 a4 a5
    simp only [Option.some.injEq] at h; subst h
    refine ⟨.cells [.int .u64 a1, .int .u64 a2, .int .u64 a3, .int .u64 a4, .int .u8 a5], ?_⟩
    refine x_fun (n := 39) (af := f122) (s := ⟨_, H.push (.cells [.int .u64 a1, .int .u64 a2, .int .u64 a3, .int .u64 a4, .int .u8 a5])⟩) rfl (x_seq (x_1 rfl rfl rfl (step_box rfl rfl) (x_v rfl rfl rfl _ rfl rfl x_nil)) (x_seq (x_v rfl rfl rfl _ rfl rfl (x_v rfl rfl rfl _ rfl (aload_new1 H _ _) (x_v rfl rfl rfl _ rfl rfl x_nil))) rfl)) rfl
  · rename_i a1 a2 a3 a4 a5
    simp only [Option.some.injEq] at h; subst h
    refine ⟨.cells [.int .u64 a1, .int .u64 a2, .int .u64 a3, .int .u64 a4, .int .u8 a5], ?_⟩
    refine x_fun (n := 39) (af := f160) (s := ⟨_, H.push (.cells [.int .u64 a1, .int .u64 a2, .int .u64 a3, .int .u64 a4, .int .u8 a5])⟩) rfl (x_seq (x_1 rfl rfl rfl (step_box rfl rfl) (x_v rfl rfl rfl _ rfl rfl x_nil)) (x_seq (x_v rfl rfl rfl _ rfl rfl (x_v rfl rfl rfl _ rfl (aload_new1 H _ _) (x_v rfl rfl rfl _ rfl rfl x_nil))) rfl)) rfl
  · simp at h

def dp : List (Nat × AFunc) := [(121, f121)]
theorem dpOK : DpOK Tryz.prog fun f => dp.lookup f := dp_ok (l := dp) ⟨⟨c121, by kernel_rfl⟩, trivial⟩

/-- The rest of level: on a heap that is alike where the other one lives. -/
theorem rest_run {fp : Nat → Option AFn} (hfp : ∀ f, Le (fp f) (ap f)) (hok : ∀ f af, fp f = some af → okF af = true) {c : Nat} {n0 : Nat} {W X W1 W2 : Heap} {v1 v2 v : AVal} {n : Nat} (ha : Alive W X)
    (h1 : runFT fp 40 W.next (.fn 21) [.ptr (some (c, 0))] W = some (v1, W1)) (h2 : aload W1 (some 6) (.ptr (some (n0, 0))) = some v2) (h3 : runFT fp 40 n0 (.fn 163) [v1, v2] W1 = some (v, W2)) (hn : n0 ≤ W.next) :
    ∃ X1 X2, Ahs.runT ap 40 X.next (.fn 21) [.ptr (some (c, 0))] X = some (v1, X1) ∧ aload X1 (some 6) (.ptr (some (n0, 0))) = some v2 ∧ Ahs.runT ap 40 n0 (.fn 163) [v1, v2] X1 = some (v, X2) ∧ X2.next = W2.next ∧ X.next ≤ X2.next ∧ ∀ b, b < n0 → X2.get b = X.get b := by
  have e1 := runFT_le hfp hok 40 W.next (.fn 21) _ _ _ h1
  have e3 := runFT_le hfp hok 40 n0 (.fn 163) _ _ _ h3
  obtain ⟨X1, r1, a1⟩ := runT_up up_ap 40 _ _ _ _ X _ _ ha e1
  obtain ⟨X2, r2, a2⟩ := runT_up up_ap 40 _ _ _ _ X1 _ _ a1 e3
  rw [← ha.next] at r1
  have k1 := run_keeps ap_ok 40 _ _ _ _ _ _ (Nat.le_refl _) r1
  have k2 := run_keeps ap_ok 40 _ _ _ _ _ _ (by rw [ha.next] at k1; omega) r2
  refine ⟨X1, X2, r1, aload_up a1 h2, r2, a2.next, by omega, fun b hb => ?_⟩
  rw [k2.2 b hb, k1.2 b (by rw [ha.next]; omega)]

theorem x_b {R : Caller} {lim : Nat} {o : AOper} {os : List AOper} {s : St} {X : Option St} {v : AVal} {H' : Heap} (hg : o.guard = none) (ha : o.apart = []) (hb : o.bar = true) (h : Ahs.step R s.H.next (St.ev s.tmps) s.H o.op = some (v, H')) (hk : Ahs.execOps R lim os ⟨putT s.tmps o.dst v, H'⟩ = X) : Ahs.execOps R lim (o :: os) s = X := by
  rw [← hk]
  unfold Ahs.execOps Ahs.execOp
  simp only [hg, wantedA, if_true, AOper.clear, ha, Bool.not_true, Bool.false_eq_true, if_false, hb, h]
  cases os <;> rfl

set_option maxHeartbeats 4000000 in
theorem level_ok {fp : Nat → Option AFn} (hfp : ∀ f, Le (fp f) (ap f)) (hok : ∀ f af, fp f = some af → okF af = true) : PrimOK Tryz.prog 121 (g121 fp) := by
  refine PrimOK.drawn Tryz.checked.mixed ap_ok dpOK (f := 121) (af := f121) rfl ?_ ?_
  · intro lim args H v H' hl h
    obtain ⟨c, own, f, cs, m, me, es, j, v1, W1, v2, W2, rfl, hcs, hm, hme, hes, hj, q1, q2, q3, q4, h1, h2, h3, rfl⟩ := g121_inv h
    exact ⟨by rw [pushDead_next]; omega, fun b hb => pushDead_old _ (by omega)⟩
  · intro lim args H v H' hl h
    obtain ⟨c, own, f, cs, m, me, es, j, v1, W1, v2, W2, rfl, hcs, hm, hme, hes, hj, q1, q2, q3, q4, h1, h2, h3, rfl⟩ := g121_inv h
    have hc := Heap.cells_lt hcs
    have hcs1 : (H.push (.cells zeros6)).cells c = some cs := cells_push_old hcs
    refine ⟨41, .inr ⟨121, f121, rfl, rfl, ?_⟩⟩
    refine execP_seq (execP_reg (opsP_v rfl rfl rfl rfl _ rfl rfl (opsP_nil ?_)))
    refine execP_seq (execP_reg (opsP_1 (v := .ptr (some (H.next, 0))) (H' := H.push (.cells zeros6)) rfl rfl rfl rfl rfl (opsP_nil ?_)))
    refine execP_seq (execP_seq (execP_reg ?_))
    refine opsP_v rfl rfl rfl rfl _ rfl rfl ?_
    refine opsP_v rfl rfl rfl rfl _ rfl rfl ?_
    refine opsP_v rfl rfl rfl rfl _ rfl rfl ?_
    refine opsP_v (v := m) rfl rfl rfl rfl _ rfl ?_ ?_
    · show aload (H.push (.cells zeros6)) none (.ptr (some (c, 18))) = some m
      rw [aload_one hcs1, hm]
    refine opsP_range rfl rfl rfl rfl es ?_ fun r mb hmb => opsP_nil ?_
    · rcases mapEs_some hes with e | ⟨b, cl, e1, e2, e3⟩
      · exact .inl e
      · exact .inr ⟨b, cl, e1, by show (H.push _).get b = _; rw [Heap.get_push_old _ _ _ (by omega)]; exact e2, e3⟩
    refine execP_block ?_
    refine level_loop (n := 40) (c := c) (b := H.next) (own := own) (f := f) (r := r) (fun v z hz H hl => mark_run hz H hl) 40 es zeros6 (H.push (.cells zeros6)) _ _ (by omega) (Nat.le_refl _) (cells_push_new H _) rfl q1 q2 ⟨_, _, _, _, _, _, _, _, _, _, _, _, _, _, _, _, _, _, _, _, _, _, _, _, _, _, _, _, _, _, rfl⟩ ?_
    intro T' H1 it' hT' hn hcb hg
    obtain ⟨t3, t4, t5, t6, t8, t9, t10, t11, t12, t13, t15, t16, t17, t18, t19, t20, t21, t22, t23, t24, t25, t26, t27, t28, t29, t30, t31, t32, t33, t34, hT'⟩ := hT'
    subst hT'
    rw [Heap.next_push] at hn
    have hz6 : (es.foldl (putE f) zeros6).length = 6 := by
      have : ∀ (es : List (AVal × AVal)) (z : List AVal), (es.foldl (putE f) z).length = z.length := by
        intro es
        induction es with
        | nil => intro z; rfl
        | cons e es ih => intro z; rw [List.foldl_cons, ih, putE_len]
      rw [this]; rfl
    have hcs2 : H1.cells c = some cs := Heap.cells_eq.2 (by rw [hg c (by rw [Heap.next_push]; omega) (by omega)]; exact Heap.cells_eq.1 hcs1)
    refine execP_seq (execP_reg ?_)
    refine opsP_v rfl rfl rfl rfl _ rfl rfl ?_
    refine opsP_v rfl rfl rfl rfl _ rfl rfl ?_
    refine opsP_v rfl rfl rfl rfl _ rfl rfl ?_
    refine opsP_v (v := me) rfl rfl rfl rfl _ rfl ?_ ?_
    · show aload H1 none (.ptr (some (c, 0))) = some me
      rw [aload_one hcs2, hme]
    refine opsP_v rfl rfl rfl rfl _ rfl rfl ?_
    refine opsP_v (v := .ptr (some (H.next, 0 + j * 1))) rfl rfl rfl rfl _ rfl ?_ ?_
    · show aindexAddr (some 6) 1 (.ptr (some (H.next, 0))) me = _
      unfold aindexAddr
      simp only [hj, q3, if_true]
    have hst : astore H.next H1 1 (.ptr (some (H.next, 0 + j * 1))) (.int .u64 own) = some (H1.set H.next (.cells ((es.foldl (putE f) zeros6).set j (.int .u64 own)))) := by
      rw [astore_at (lim := H.next) (n := 1) (o := 0 + j * 1) (x := .int .u64 own) hcb (Nat.le_refl _) rfl (by omega) rfl, show AVal.cells (.int .u64 own) = [.int .u64 own] from rfl, put_one (by omega), show 0 + j * 1 = j by omega]
    refine opsP_st rfl rfl rfl rfl hst (opsP_nil ?_)
    have hal : Alive (behind f es own j H) (H1.set H.next (.cells ((es.foldl (putE f) zeros6).set j (.int .u64 own)))) := by
      refine ⟨by unfold behind; rw [Heap.next_set, pushDead_next, Heap.next_push, hn], fun b x hx hd => ?_⟩
      unfold behind at hx
      have hb := Heap.get_lt hx
      rw [pushDead_next, Heap.next_push] at hb
      rcases Nat.lt_or_ge b (H.next + 1) with g | g
      · rw [pushDead_old _ (by rw [Heap.next_push]; exact g)] at hx
        by_cases hbe : b = H.next
        · subst hbe
          rw [Heap.get_push_new] at hx
          rw [Heap.get_set_same _ _ _ (by omega)]; exact hx
        · rw [Heap.get_push_old _ _ _ hbe] at hx
          rw [Heap.get_set_other _ _ _ _ hbe, hg b (by rw [Heap.next_push]; omega) hbe, Heap.get_push_old _ _ _ hbe]; exact hx
      · rw [pushDead_new _ (by rw [Heap.next_push]; exact g) (by rw [Heap.next_push]; omega)] at hx
        simp only [Option.some.injEq] at hx
        exact absurd hx.symm hd
    obtain ⟨X1, X2, r1, r2, r3, r4, r5, r6⟩ := rest_run (n := 40) hfp hok hal h1 h2 h3 (by unfold behind; rw [pushDead_next, Heap.next_push]; omega)
    generalize hX : H1.set H.next (.cells ((es.foldl (putE f) zeros6).set j (.int .u64 own))) = X at r1 r4 r5 r6 ⊢
    have hXn : X.next = H.next + 1 + 2 * es.length := by rw [← hX, Heap.next_set, hn]
    have hXg : ∀ b, b < H.next → X.get b = H.get b := fun b hb => by
      rw [← hX, Heap.get_set_other _ _ _ _ (by omega), hg b (by rw [Heap.next_push]; omega) (by omega), Heap.get_push_old _ _ _ (by omega)]
    refine execP_seq (.inl ⟨_, x_v rfl rfl rfl _ rfl rfl (x_b rfl rfl rfl r1 (x_b (v := v2) (H' := X1) rfl rfl rfl ?_ (x_1 rfl rfl rfl r3 (x_v rfl rfl rfl _ rfl rfl x_nil)))), ?_⟩)
    · show val X1 (aload X1 (some 6) (.ptr (some (H.next, 0)))) = _
      rw [r2]; rfl
    · refine ⟨fun id => by simp, v, rfl, rfl, ?_⟩
      exact forget_dead (show X2.next = H.next + (W2.next - H.next) by omega) fun b hb => by rw [r6 b hb, hXg b hb]
theorem fns_all : fns.all (fun p => okF p.2) = true := by kernel_rfl
noncomputable def tree0 : TF := TF.mk fns 8 0 1
noncomputable def lv121 := g121 tree0.get
theorem lv_ok : PrimOK Tryz.prog 121 lv121 := level_ok (tree_le 8) (tree_ok 8 fns_all)
end Go.Proofs.YtnlimogbokkfpaaGreat.raft
