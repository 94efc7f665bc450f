/- level: what the peers' marks come to, in whatever order they are gone through. -/
import Derived.Test.YtnlimogbokkfpaaGreatRkAp
import Derived.Test.YtnlimogbokkfpaaGreatChsA20
import Derived.Test.YtnlimogbokkfpaaGreatChsP6
import Derived.Test.YtnlimogbokkfpaaGreatChsP8
import Derived.Test.YtnlimogbokkfpaaGreatChsW2
import Derived.Test.YtnlimogbokkfpaaGreatChsD1
import Derived.Test.YtnlimogbokkfpaaGreatChecked
import Derived.Test.YtnlimogbokkfpaaGreatChsF2
import Derived.Test.YtnlimogbokkfpaaGreatChsA22
set_option maxRecDepth 100000
set_option linter.unusedSimpArgs false
set_option linter.unusedVariables false
namespace Go.Proofs.YtnlimogbokkfpaaGreat.raft
open Go.Ahs
def markOf : FuncId → AVal → Option AVal
 | 122, .agg [.int .u64 _, .int .u64 _, .int .u64 z, .int .u64 _, .int .u8 _] => some (.int .u64 z)
 | 160, .agg [.int .u64 z, .int .u64 _, .int .u64 _, .int .u64 _, .int .u8 _] => some (.int .u64 z)
 | _, _ => none
def entOK (f : FuncId) (e : AVal × AVal) : Bool := match natOf e.1, markOf f e.2 with
 | some k, some _ => decide (k < 6)
 | _, _ => false
def putE (f : FuncId) (ms : List AVal) (e : AVal × AVal) : List AVal := match natOf e.1, markOf f e.2 with
 | some k, some z => ms.set k z
 | _, _ => ms
def sameK : Option Nat → Option Nat → Bool
 | some a, some b => Nat.beq a b
 | _, _ => true
def apartE : List (AVal × AVal) → Bool
 | [] => true
 | e :: es => es.all (fun f => !sameK (natOf e.1) (natOf f.1)) && apartE es
theorem sameK_comm (a b : Option Nat) : sameK a b = sameK b a := by
 cases a <;> cases b <;> try rfl
 rename_i a b
 simp only [sameK]
 by_cases h : a = b
 ·rw [h]
 ·have h1 : Nat.beq a b = false := by rw [← Bool.not_eq_true]; exact fun e => h (Nat.eq_of_beq_eq_true e)
  have h2 : Nat.beq b a = false := by rw [← Bool.not_eq_true]; exact fun e => h (Nat.eq_of_beq_eq_true e).symm
  rw [h1, h2]
theorem apart_eq : ∀ {es : List (AVal × AVal)}, apartE es = true → ∀ x ∈ es, ∀ y ∈ es, sameK (natOf x.1) (natOf y.1) = true → x = y
 | [], _, x, hx, _, _, _ => by simp at hx
 | e :: es, h, x, hx, y, hy, hs => by
  simp only [apartE, Bool.and_eq_true, List.all_eq_true] at h
  rcases List.mem_cons.1 hx with rfl | hx
  ·rcases List.mem_cons.1 hy with rfl | hy
   ·rfl
   ·have := h.1 y hy; rw [hs] at this; simp at this
  ·rcases List.mem_cons.1 hy with rfl | hy
   ·have := h.1 x (by assumption); rw [sameK_comm, hs] at this; simp at this
   ·exact apart_eq h.2 x hx y hy hs
theorem putE_comm {f : FuncId} {x y : AVal × AVal} (h : sameK (natOf x.1) (natOf y.1) = true → x = y) (z : List AVal) : putE f (putE f z x) y = putE f (putE f z y) x := by
 by_cases hxy : x = y
 ·rw [hxy]
 ·unfold putE
  cases h1 : natOf x.1 with
  | none => rfl
  | some a =>
   cases h2 : natOf y.1 with
   | none => rfl
   | some b =>
    cases h3 : markOf f x.2 <;> cases h4 : markOf f y.2 <;> try rfl
    have hne : a ≠ b := fun e => hxy (h (by rw [h1, h2, e]; simp [sameK]))
    exact List.set_comm _ _ hne
theorem fold_perm {f : FuncId} {es es' : List (AVal × AVal)} (ha : apartE es = true) (hp : es.Perm es') (z : List AVal) : es.foldl (putE f) z = es'.foldl (putE f) z :=
 hp.foldl_eq' (fun x hx y hy z => putE_comm (apart_eq ha x hx y hy) z) z
theorem putE_len (f : FuncId) (z : List AVal) (e : AVal × AVal) : (putE f z e).length = z.length := by
 unfold putE; split <;> simp
def body121 : ACode := match f121.body with
 | .seq _ (.seq _ (.seq (.seq _ (.block _ (.loop b))) _)) => b
 | _ => .skip
theorem apart_perm {es es' : List (AVal × AVal)} (hp : es.Perm es') : apartE es = true → apartE es' = true := by
 induction hp with
 | nil => exact id
 | cons e hp ih =>
  intro h
  simp only [apartE, Bool.and_eq_true, List.all_eq_true] at h ⊢
  exact ⟨fun x hx => h.1 x (hp.mem_iff.2 hx), ih h.2⟩
 | swap a b l =>
  intro h
  simp only [apartE, Bool.and_eq_true, List.all_eq_true, List.mem_cons, forall_eq_or_imp] at h ⊢
  exact ⟨⟨by rw [sameK_comm]; exact h.1.1, h.2.1⟩, h.1.2, h.2.2⟩
 | trans _ _ h1 h2 => exact fun h => h2 (h1 h)
section
variable {R : Caller} {RP : CallerP} {lim0 lim n : Nat} {H : Heap}
theorem reg {ops : List AOper} {s : PSt} {K : KP} {s1 : St} (h : execOps R lim ops ⟨s.tmps, s.H⟩ = some s1) (hk : K .norm ⟨s1.tmps, s1.H, s.it⟩) : execP R RP lim0 lim n (.region ops) s K := .inl ⟨s1, h, hk⟩
theorem put_one {cs : List AVal} {o : Nat} {x : AVal} (ho : o < cs.length) : put cs o [x] = cs.set o x := by
 unfold put
 rw [List.set_eq_take_append_cons_drop, if_pos ho]
 simp
set_option maxHeartbeats 4000000 in
theorem level_loop {K : KP} {c b : Nat} {own : Int} {f : FuncId} {r : Nat} {mb : Option Nat}
  (hR : ∀ v z, markOf f v = some z → ∀ H, lim ≤ H.next → ∃ x, R lim (.fn f) [v] H = some (z, H.push x)) : ∀ (m : Nat) (left : List (AVal × AVal)) (ms : List AVal) (H : Heap) (T : List AVal) (cur : Option (AVal × AVal)), left.length < m → lim ≤ b → H.cells b = some ms → ms.length = 6 → (left.all (entOK f)) = true → apartE left = true →
  (∃ t3 t4 t5 t6 t8 t9 t10 t11 t12 t13 t15 t16 t17 t18 t19 t20 t21 t22 t23 t24 t25 t26 t27 t28 t29 t30 t31 t32 t33 t34 : AVal, T = [.ptr (some (c, 0)), .int .u64 own, .fn f [] [], t3, t4, t5, t6, .ptr (some (b, 0)), t8, t9, t10, t11, t12, t13, .itr r, t15, t16, t17, t18, t19, t20, t21, t22, t23, t24, t25, t26, t27, t28, t29, t30, t31, t32, t33, t34]) →
  (∀ T' H' it', (∃ t3 t4 t5 t6 t8 t9 t10 t11 t12 t13 t15 t16 t17 t18 t19 t20 t21 t22 t23 t24 t25 t26 t27 t28 t29 t30 t31 t32 t33 t34 : AVal, T' = [.ptr (some (c, 0)), .int .u64 own, .fn f [] [], t3, t4, t5, t6, .ptr (some (b, 0)), t8, t9, t10, t11, t12, t13, .itr r, t15, t16, t17, t18, t19, t20, t21, t22, t23, t24, t25, t26, t27, t28, t29, t30, t31, t32, t33, t34]) →
   H'.next = H.next + 2 * left.length → H'.cells b = some (left.foldl (putE f) ms) → (∀ d, d < H.next → d ≠ b → H'.get d = H.get d) → K (.exit 0) ⟨T', H', it'⟩) →
  loopP (execP R RP lim0 lim n body121) m ⟨T, H, some ⟨r, mb, left, cur⟩⟩ K
 | 0, left, ms, H, T, cur, h1, _, _, _, _, _, _, _ => by omega
 | m + 1, left, ms, H, T, cur, h1, hl, hms, hlen, hok, hap, ⟨t3, t4, t5, t6, t8, t9, t10, t11, t12, t13, t15, t16, t17, t18, t19, t20, t21, t22, t23, t24, t25, t26, t27, t28, t29, t30, t31, t32, t33, t34, hT⟩, hK => by
  subst hT
  have hbn := Heap.cells_lt hms
  unfold loopP
  show execP R RP lim0 lim n (.seq (.region _) (.seq (.cond _ .skip (.exit 0)) (.block 1 _))) _ _
  refine execP_seq (execP_reg ?_)
  refine opsP_next rfl rfl rfl rfl ?_ ?_
  ·intro hleft
   simp only at hleft
   subst hleft
   refine opsP_v rfl rfl rfl rfl _ rfl rfl (opsP_nil ?_)
   refine execP_seq (execP_cond false rfl (fun e => by simp at e) fun _ => execP_exit ?_)
   exact hK _ _ _ ⟨_, _, _, _, _, _, _, _, _, _, _, _, _, _, _, _, _, _, _, _, _, _, _, _, _, _, _, _, _, _, rfl⟩ rfl hms (fun _ _ _ => rfl)
  ·intro k v rest hp
   simp only at hp
   refine opsP_v rfl rfl rfl rfl _ rfl rfl (opsP_nil ?_)
   refine execP_seq (execP_cond true rfl (fun _ => execP_skip ?_) fun e => by simp at e)
   have hmem : (k, v) ∈ left := hp.mem_iff.2 (by simp)
   have hent := List.all_eq_true.1 hok _ hmem
   have hl1 : left.length = rest.length + 1 := by rw [hp.length_eq]; rfl
   have hapr := apart_perm hp hap
   have hfold := fold_perm (f := f) hap hp ms
   have hokr : (rest.all (entOK f)) = true := by
    rw [List.all_eq_true] at hok ⊢
    exact fun e he => hok e (hp.mem_iff.2 (by simp [he]))
   unfold entOK at hent
   split at hent <;> try (simp at hent; done)
   rename_i j z hj hz
   simp only at hj hz
   simp only [decide_eq_true_eq] at hent
   rw [hfold] at hK
   rw [List.foldl_cons] at hK
   have hput : putE f ms (k, v) = ms.set j z := by unfold putE; simp only [hj, hz]
   rw [hput] at hK
   simp only [apartE, Bool.and_eq_true] at hapr
   obtain ⟨a1, a2, a3, a4, a5, rfl⟩ : ∃ a1 a2 a3 a4 a5 : Int, v = .agg [.int .u64 a1, .int .u64 a2, .int .u64 a3, .int .u64 a4, .int .u8 a5] := by
    unfold markOf at hz
    split at hz
    ·exact ⟨_, _, _, _, _, rfl⟩
    ·exact ⟨_, _, _, _, _, rfl⟩
    ·simp at hz
   have hz1 : z.cells = [z] ∧ z.one = true := by
    unfold markOf at hz
    split at hz <;> first | (simp at hz; done) | (simp only [Option.some.injEq] at hz; subst hz; exact ⟨rfl, rfl⟩)
   refine execP_block (execP_seq (execP_reg ?_))
   refine opsP_entry rfl rfl rfl rfl rfl ?_
   refine opsP_v rfl rfl rfl rfl _ rfl rfl ?_
   refine opsP_v rfl rfl rfl rfl _ rfl rfl ?_
   refine opsP_1 rfl rfl rfl rfl rfl ?_
   refine opsP_v rfl rfl rfl rfl _ rfl rfl ?_
   refine opsP_st rfl rfl rfl rfl (astore_new (cs := [(.int .u64 0), (.int .u64 0), (.int .u64 0), (.int .u64 0), (.int .u8 0)]) (x := .agg [.int .u64 a1, .int .u64 a2, .int .u64 a3, .int .u64 a4, .int .u8 a5]) (show lim ≤ H.next from Nat.le_of_lt (Nat.lt_of_le_of_lt hl hbn)) rfl rfl rfl) (opsP_nil ?_)
   refine execP_reg ?_
   refine opsP_v rfl rfl rfl rfl _ rfl rfl ?_
   refine opsP_v rfl rfl rfl rfl _ rfl rfl ?_
   refine opsP_v rfl rfl rfl rfl _ rfl (aload_newA H rfl) ?_
   obtain ⟨H3, hx, h3n, h3c, h3g⟩ : ∃ H3, R lim (.fn f) [.agg [.int .u64 a1, .int .u64 a2, .int .u64 a3, .int .u64 a4, .int .u8 a5]] (H.push (.cells [.int .u64 a1, .int .u64 a2, .int .u64 a3, .int .u64 a4, .int .u8 a5])) = some (z, H3) ∧ H3.next = H.next + 2 ∧ H3.cells b = some ms ∧ ∀ d, d < H.next → H3.get d = H.get d := by
    obtain ⟨x, hx⟩ := hR _ z hz (H.push (.cells [.int .u64 a1, .int .u64 a2, .int .u64 a3, .int .u64 a4, .int .u8 a5])) (by rw [Heap.next_push]; omega)
    exact ⟨_, hx, by rw [Heap.next_push, Heap.next_push], cells_push_old (cells_push_old hms), fun d hd => by rw [Heap.get_push_old _ _ _ (by rw [Heap.next_push]; omega), Heap.get_push_old _ _ _ (by omega)]⟩
   refine opsP_callv rfl rfl rfl rfl rfl hx ?_
   refine opsP_v (v := .ptr (some (b, 0 + j * 1))) rfl rfl rfl rfl _ rfl ?_ ?_
   ·show aindexAddr (some 6) 1 (.ptr (some (b, 0))) k = _
    unfold aindexAddr
    simp only [hj, hent, if_true]
   have hst : astore lim H3 1 (.ptr (some (b, 0 + j * 1))) z = some (H3.set b (.cells (ms.set j z))) := by
    rw [astore_at (lim := lim) (n := 1) (o := 0 + j * 1) (x := z) h3c hl (by rw [hz1.1]; rfl) (by omega) (by rw [hz1.1]; simp [hz1.2]), hz1.1, put_one (by omega), show 0 + j * 1 = j by omega]
   refine opsP_st rfl rfl rfl rfl hst (opsP_nil ?_)
   refine level_loop hR m rest (ms.set j z) _ _ _ (by omega) hl (cells_set_same (by omega)) (by simp [hlen]) hokr hapr.2 ⟨_, _, _, _, _, _, _, _, _, _, _, _, _, _, _, _, _, _, _, _, _, _, _, _, _, _, _, _, _, _, rfl⟩ ?_
   intro T' H' it' hT' hn hc hg
   rw [Heap.next_set] at hn hg
   refine hK T' H' it' hT' (by omega) hc (fun d hd hne => ?_)
   rw [hg d (by omega) hne, Heap.get_set_other _ _ _ _ hne, h3g d hd]
end
def zeros6 : List AVal := [(.int .u64 0), (.int .u64 0), (.int .u64 0), (.int .u64 0), (.int .u64 0), (.int .u64 0)]
def behind (f : FuncId) (es : List (AVal × AVal)) (own : Int) (j : Nat) (H : Heap) : Heap :=
 pushDead (2 * es.length) (H.push (.cells ((es.foldl (putE f) zeros6).set j (.int .u64 own))))
noncomputable def g121 (fp : Nat → Option AFn) (_ : Nat) (args : List AVal) (H : Heap) : Option (AVal × Heap) :=
 match args with
 | [.ptr (some (c, 0)), .int .u64 own, .fn f [] []] =>
  match H.cells c with
  | some cs => match cs[18]?, cs[0]? with
   | some m, some me => match mapEs H m, natOf me with
    | some es, some j => match es.all (entOK f) && apartE es && Nat.ble (j + 1) 6 && Nat.ble (es.length + 1) 39 with
     | true => match runFT fp 40 (behind f es own j H).next (.fn 21) [.ptr (some (c, 0))] (behind f es own j H) with
      | some (v1, W1) => match aload W1 (some 6) (.ptr (some (H.next, 0))) with
       | some v2 => match runFT fp 40 H.next (.fn 163) [v1, v2] W1 with
        | some (v, W2) => some (v, pushDead (W2.next - H.next) H)
        | none => none
       | none => none
      | none => none
     | false => none
    | _, _ => none
   | _, _ => none
  | none => none
 | _ => none
theorem g121_inv {fp : Nat → Option AFn} {lim : Nat} {args : List AVal} {H H' : Heap} {v : AVal} (h : g121 fp lim args H = some (v, H')) :
  ∃ c own f cs m me es j v1 W1 v2 W2, args = [.ptr (some (c, 0)), .int .u64 own, .fn f [] []] ∧ H.cells c = some cs ∧ cs[18]? = some m ∧ cs[0]? = some me ∧ mapEs H m = some es ∧ natOf me = some j ∧ es.all (entOK f) = true ∧ apartE es = true ∧ j < 6 ∧ es.length < 39 ∧
   runFT fp 40 (behind f es own j H).next (.fn 21) [.ptr (some (c, 0))] (behind f es own j H) = some (v1, W1) ∧ aload W1 (some 6) (.ptr (some (H.next, 0))) = some v2 ∧ runFT fp 40 H.next (.fn 163) [v1, v2] W1 = some (v, W2) ∧ H' = pushDead (W2.next - H.next) H := by
 unfold g121 at h
 split at h
 case h_2 => simp at h
 rename_i c own f
 split at h
 case h_2 => simp at h
 rename_i cs hcs
 split at h
 case h_2 => simp at h
 rename_i m me hm hme
 split at h
 case h_2 => simp at h
 rename_i es j hes hj
 split at h
 case h_2 => simp at h
 rename_i hok
 split at h
 case h_2 => simp at h
 rename_i v1 W1 h1
 split at h
 case h_2 => simp at h
 rename_i v2 h2
 split at h
 case h_2 => simp at h
 rename_i v' W2 h3
 simp only [Option.some.injEq, Prod.mk.injEq] at h
 obtain ⟨rfl, rfl⟩ := h
 simp only [Bool.and_eq_true] at hok
 obtain ⟨⟨⟨q1, q2⟩, q3⟩, q4⟩ := hok
 have q3 := Nat.le_of_ble_eq_true q3
 have q4 := Nat.le_of_ble_eq_true q4
 exact ⟨c, own, f, cs, m, me, es, j, v1, W1, v2, W2, rfl, hcs, hm, hme, hes, hj, q1, q2, by omega, by omega, h1, h2, h3, rfl⟩
theorem mapEs_some {H : Heap} {m : AVal} {es : List (AVal × AVal)} (h : mapEs H m = some es) : (m = .map none ∧ es = []) ∨ ∃ b clock, m = .map (some b) ∧ H.get b = some (.map es clock) ∧ b < H.next := by
 unfold mapEs at h
 split at h
 ·simp at h; exact .inl ⟨rfl, h⟩
 ·rename_i b
  split at h
  ·rename_i es' cl hg
   simp at h; subst h
   refine .inr ⟨b, cl, rfl, hg, ?_⟩
   rcases Nat.lt_or_ge b H.next with g | g
   ·exact g
   ·rw [Heap.get_ge _ _ g] at hg; simp at hg
  ·simp at h
 ·simp at h
def isCode : AFn → Bool
 | .code _ => true
 | .prim _ => false
theorem lookup_code {l : List (Nat × AFn)} (h : l.all (fun p => isCode p.2) = true) : ∀ f af, l.lookup f = some af → isCode af = true := by
 induction l with
 | nil => intro f af h'; simp at h'
 | cons p l ih =>
  intro f af h'
  simp only [List.all_cons, Bool.and_eq_true] at h
  rw [List.lookup_cons] at h'
  split at h'
  ·simp at h'; subst h'; exact h.1
  ·exact ih h.2 f af h'
theorem fns_code : fns.all (fun p => isCode p.2) = true := by kernel_rfl
theorem up_ap : UpAp ap := fun f g h => by have := lookup_code fns_code f _ h; simp [isCode] at this
theorem mark_run {f : FuncId} {v z : AVal} (h : markOf f v = some z) {lim : Nat} (H : Heap) (hl : lim ≤ H.next) : ∃ x, Ahs.runT ap 40 lim (.fn f) [v] H = some (z, H.push x) := by
 unfold markOf at h
 split at h
 ·rename_i a1 a2 a3 a4 a5
  simp only [Option.some.injEq] at h; subst h
  refine ⟨.cells [.int .u64 a1, .int .u64 a2, .int .u64 a3, .int .u64 a4, .int .u8 a5], ?_⟩
  refine x_fun (n := 39) (af := f122) (s := ⟨_, H.push (.cells [.int .u64 a1, .int .u64 a2, .int .u64 a3, .int .u64 a4, .int .u8 a5])⟩) rfl (x_seq (x_1 rfl rfl rfl (step_box rfl rfl) (x_v rfl rfl rfl _ rfl rfl x_nil)) (x_seq (x_v rfl rfl rfl _ rfl rfl (x_v rfl rfl rfl _ rfl (aload_new1 H _ _) (x_v rfl rfl rfl _ rfl rfl x_nil))) rfl)) rfl
 ·rename_i a1 a2 a3 a4 a5
  simp only [Option.some.injEq] at h; subst h
  refine ⟨.cells [.int .u64 a1, .int .u64 a2, .int .u64 a3, .int .u64 a4, .int .u8 a5], ?_⟩
  refine x_fun (n := 39) (af := f160) (s := ⟨_, H.push (.cells [.int .u64 a1, .int .u64 a2, .int .u64 a3, .int .u64 a4, .int .u8 a5])⟩) rfl (x_seq (x_1 rfl rfl rfl (step_box rfl rfl) (x_v rfl rfl rfl _ rfl rfl x_nil)) (x_seq (x_v rfl rfl rfl _ rfl rfl (x_v rfl rfl rfl _ rfl (aload_new1 H _ _) (x_v rfl rfl rfl _ rfl rfl x_nil))) rfl)) rfl
 ·simp at h
def dp : List (Nat × AFunc) := [(121, f121)]
theorem dpOK : DpOK Tryz.prog fun f => dp.lookup f := dp_ok (l := dp) ⟨⟨c121, by kernel_rfl⟩, trivial⟩
theorem rest_run {fp : Nat → Option AFn} (hfp : ∀ f, Le (fp f) (ap f)) (hok : ∀ f af, fp f = some af → okF af = true) {c : Nat} {n0 : Nat} {W X W1 W2 : Heap} {v1 v2 v : AVal} {n : Nat} (ha : Alive W X)
  (h1 : runFT fp 40 W.next (.fn 21) [.ptr (some (c, 0))] W = some (v1, W1)) (h2 : aload W1 (some 6) (.ptr (some (n0, 0))) = some v2) (h3 : runFT fp 40 n0 (.fn 163) [v1, v2] W1 = some (v, W2)) (hn : n0 ≤ W.next) :
  ∃ X1 X2, Ahs.runT ap 40 X.next (.fn 21) [.ptr (some (c, 0))] X = some (v1, X1) ∧ aload X1 (some 6) (.ptr (some (n0, 0))) = some v2 ∧ Ahs.runT ap 40 n0 (.fn 163) [v1, v2] X1 = some (v, X2) ∧ X2.next = W2.next ∧ X.next ≤ X2.next ∧ ∀ b, b < n0 → X2.get b = X.get b := by
 have e1 := runFT_le hfp hok 40 W.next (.fn 21) _ _ _ h1
 have e3 := runFT_le hfp hok 40 n0 (.fn 163) _ _ _ h3
 obtain ⟨X1, r1, a1⟩ := runT_up up_ap 40 _ _ _ _ X _ _ ha e1
 obtain ⟨X2, r2, a2⟩ := runT_up up_ap 40 _ _ _ _ X1 _ _ a1 e3
 rw [← ha.next] at r1
 have k1 := run_keeps ap_ok 40 _ _ _ _ _ _ (Nat.le_refl _) r1
 have k2 := run_keeps ap_ok 40 _ _ _ _ _ _ (by rw [ha.next] at k1; omega) r2
 refine ⟨X1, X2, r1, aload_up a1 h2, r2, a2.next, by omega, fun b hb => ?_⟩
 rw [k2.2 b hb, k1.2 b (by rw [ha.next]; omega)]
theorem x_b {R : Caller} {lim : Nat} {o : AOper} {os : List AOper} {s : St} {X : Option St} {v : AVal} {H' : Heap} (hg : o.guard = none) (ha : o.apart = []) (hb : o.bar = true) (h : Ahs.step R s.H.next (St.ev s.tmps) s.H o.op = some (v, H')) (hk : Ahs.execOps R lim os ⟨putT s.tmps o.dst v, H'⟩ = X) : Ahs.execOps R lim (o :: os) s = X := by
 rw [← hk]
 unfold Ahs.execOps Ahs.execOp
 simp only [hg, wantedA, if_true, AOper.clear, ha, Bool.not_true, Bool.false_eq_true, if_false, hb, h]
 cases os <;> rfl
set_option maxHeartbeats 4000000 in
theorem level_ok {fp : Nat → Option AFn} (hfp : ∀ f, Le (fp f) (ap f)) (hok : ∀ f af, fp f = some af → okF af = true) : PrimOK Tryz.prog 121 (g121 fp) := by
 refine PrimOK.drawn Tryz.checked.mixed ap_ok dpOK (f := 121) (af := f121) rfl ?_ ?_
 ·intro lim args H v H' hl h
  obtain ⟨c, own, f, cs, m, me, es, j, v1, W1, v2, W2, rfl, hcs, hm, hme, hes, hj, q1, q2, q3, q4, h1, h2, h3, rfl⟩ := g121_inv h
  exact ⟨by rw [pushDead_next]; omega, fun b hb => pushDead_old _ (by omega)⟩
 ·intro lim args H v H' hl h
  obtain ⟨c, own, f, cs, m, me, es, j, v1, W1, v2, W2, rfl, hcs, hm, hme, hes, hj, q1, q2, q3, q4, h1, h2, h3, rfl⟩ := g121_inv h
  have hc := Heap.cells_lt hcs
  have hcs1 : (H.push (.cells zeros6)).cells c = some cs := cells_push_old hcs
  refine ⟨41, .inr ⟨121, f121, rfl, rfl, ?_⟩⟩
  refine execP_seq (execP_reg (opsP_v rfl rfl rfl rfl _ rfl rfl (opsP_nil ?_)))
  refine execP_seq (execP_reg (opsP_1 (v := .ptr (some (H.next, 0))) (H' := H.push (.cells zeros6)) rfl rfl rfl rfl rfl (opsP_nil ?_)))
  refine execP_seq (execP_seq (execP_reg ?_))
  refine opsP_v rfl rfl rfl rfl _ rfl rfl ?_
  refine opsP_v rfl rfl rfl rfl _ rfl rfl ?_
  refine opsP_v rfl rfl rfl rfl _ rfl rfl ?_
  refine opsP_v (v := m) rfl rfl rfl rfl _ rfl ?_ ?_
  ·show aload (H.push (.cells zeros6)) none (.ptr (some (c, 18))) = some m
   rw [aload_one hcs1, hm]
  refine opsP_range rfl rfl rfl rfl es ?_ fun r mb hmb => opsP_nil ?_
  ·rcases mapEs_some hes with e | ⟨b, cl, e1, e2, e3⟩
   ·exact .inl e
   ·exact .inr ⟨b, cl, e1, by show (H.push _).get b = _; rw [Heap.get_push_old _ _ _ (by omega)]; exact e2, e3⟩
  refine execP_block ?_
  refine level_loop (n := 40) (c := c) (b := H.next) (own := own) (f := f) (r := r) (fun v z hz H hl => mark_run hz H hl) 40 es zeros6 (H.push (.cells zeros6)) _ _ (by omega) (Nat.le_refl _) (cells_push_new H _) rfl q1 q2 ⟨_, _, _, _, _, _, _, _, _, _, _, _, _, _, _, _, _, _, _, _, _, _, _, _, _, _, _, _, _, _, rfl⟩ ?_
  intro T' H1 it' hT' hn hcb hg
  obtain ⟨t3, t4, t5, t6, t8, t9, t10, t11, t12, t13, t15, t16, t17, t18, t19, t20, t21, t22, t23, t24, t25, t26, t27, t28, t29, t30, t31, t32, t33, t34, hT'⟩ := hT'
  subst hT'
  rw [Heap.next_push] at hn
  have hz6 : (es.foldl (putE f) zeros6).length = 6 := by
   have : ∀ (es : List (AVal × AVal)) (z : List AVal), (es.foldl (putE f) z).length = z.length := by
    intro es
    induction es with
    | nil => intro z; rfl
    | cons e es ih => intro z; rw [List.foldl_cons, ih, putE_len]
   rw [this]; rfl
  have hcs2 : H1.cells c = some cs := Heap.cells_eq.2 (by rw [hg c (by rw [Heap.next_push]; omega) (by omega)]; exact Heap.cells_eq.1 hcs1)
  refine execP_seq (execP_reg ?_)
  refine opsP_v rfl rfl rfl rfl _ rfl rfl ?_
  refine opsP_v rfl rfl rfl rfl _ rfl rfl ?_
  refine opsP_v rfl rfl rfl rfl _ rfl rfl ?_
  refine opsP_v (v := me) rfl rfl rfl rfl _ rfl ?_ ?_
  ·show aload H1 none (.ptr (some (c, 0))) = some me
   rw [aload_one hcs2, hme]
  refine opsP_v rfl rfl rfl rfl _ rfl rfl ?_
  refine opsP_v (v := .ptr (some (H.next, 0 + j * 1))) rfl rfl rfl rfl _ rfl ?_ ?_
  ·show aindexAddr (some 6) 1 (.ptr (some (H.next, 0))) me = _
   unfold aindexAddr
   simp only [hj, q3, if_true]
  have hst : astore H.next H1 1 (.ptr (some (H.next, 0 + j * 1))) (.int .u64 own) = some (H1.set H.next (.cells ((es.foldl (putE f) zeros6).set j (.int .u64 own)))) := by
   rw [astore_at (lim := H.next) (n := 1) (o := 0 + j * 1) (x := .int .u64 own) hcb (Nat.le_refl _) rfl (by omega) rfl, show AVal.cells (.int .u64 own) = [.int .u64 own] from rfl, put_one (by omega), show 0 + j * 1 = j by omega]
  refine opsP_st rfl rfl rfl rfl hst (opsP_nil ?_)
  have hal : Alive (behind f es own j H) (H1.set H.next (.cells ((es.foldl (putE f) zeros6).set j (.int .u64 own)))) := by
   refine ⟨by unfold behind; rw [Heap.next_set, pushDead_next, Heap.next_push, hn], fun b x hx hd => ?_⟩
   unfold behind at hx
   have hb := Heap.get_lt hx
   rw [pushDead_next, Heap.next_push] at hb
   rcases Nat.lt_or_ge b (H.next + 1) with g | g
   ·rw [pushDead_old _ (by rw [Heap.next_push]; exact g)] at hx
    by_cases hbe : b = H.next
    ·subst hbe
     rw [Heap.get_push_new] at hx
     rw [Heap.get_set_same _ _ _ (by omega)]; exact hx
    ·rw [Heap.get_push_old _ _ _ hbe] at hx
     rw [Heap.get_set_other _ _ _ _ hbe, hg b (by rw [Heap.next_push]; omega) hbe, Heap.get_push_old _ _ _ hbe]; exact hx
   ·rw [pushDead_new _ (by rw [Heap.next_push]; exact g) (by rw [Heap.next_push]; omega)] at hx
    simp only [Option.some.injEq] at hx
    exact absurd hx.symm hd
  obtain ⟨X1, X2, r1, r2, r3, r4, r5, r6⟩ := rest_run (n := 40) hfp hok hal h1 h2 h3 (by unfold behind; rw [pushDead_next, Heap.next_push]; omega)
  generalize hX : H1.set H.next (.cells ((es.foldl (putE f) zeros6).set j (.int .u64 own))) = X at r1 r4 r5 r6 ⊢
  have hXn : X.next = H.next + 1 + 2 * es.length := by rw [← hX, Heap.next_set, hn]
  have hXg : ∀ b, b < H.next → X.get b = H.get b := fun b hb => by
   rw [← hX, Heap.get_set_other _ _ _ _ (by omega), hg b (by rw [Heap.next_push]; omega) (by omega), Heap.get_push_old _ _ _ (by omega)]
  refine execP_seq (.inl ⟨_, x_v rfl rfl rfl _ rfl rfl (x_b rfl rfl rfl r1 (x_b (v := v2) (H' := X1) rfl rfl rfl ?_ (x_1 rfl rfl rfl r3 (x_v rfl rfl rfl _ rfl rfl x_nil)))), ?_⟩)
  ·show val X1 (aload X1 (some 6) (.ptr (some (H.next, 0)))) = _
   rw [r2]; rfl
  ·refine ⟨fun id => by simp, v, rfl, rfl, ?_⟩
   exact forget_dead (show X2.next = H.next + (W2.next - H.next) by omega) fun b hb => by rw [r6 b hb, hXg b hb]
theorem fns_all : fns.all (fun p => okF p.2) = true := by kernel_rfl
noncomputable def tree0 : TF := TF.mk fns 8 0 1
noncomputable def lv121 := g121 tree0.get
theorem lv_ok : PrimOK Tryz.prog 121 lv121 := level_ok (tree_le 8) (tree_ok 8 fns_all)
noncomputable def fnsX : List (Nat × AFn) := (121, .prim lv121) :: fns
theorem fnsX_ok : AllOK Tryz.prog fnsX := ⟨lv_ok, fns_ok⟩
theorem all_ok : fnsX.all (fun p => okF p.2) = true := by kernel_rfl
noncomputable def tree : TF := TF.mk fnsX 8 0 1
theorem apX_ok : ∀ f af, tab fnsX f = some af → FnOK Tryz.prog f af := tab_ok fnsX_ok
theorem runs : isTrue (run (tab fnsX) 60 0 23 [] Heap.empty) = true := fast_run (k := 8) (T := tree) rfl all_ok (by kernel_rfl)
def gAwake : Nat → List AVal → Heap → Option (AVal × Heap) := fun _ args H => match args with | [] => some (.bool true, H) | _ => none
theorem awake_ok : PrimOK Tryz.prog 23 gAwake := by
 obtain ⟨H0, h⟩ := isTrue_inv runs
 exact PrimOK.closed Tryz.checked.mixed apX_ok h rfl
end Go.Proofs.YtnlimogbokkfpaaGreat.raft
