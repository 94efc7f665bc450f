/- level: what the peers' marks come to, in whatever order they are gone through. -/
import Derived.Test.YtnlimogbokkfpaaGreatRkAp
import Derived.Test.YtnlimogbokkfpaaGreatChsA20
import Derived.Test.YtnlimogbokkfpaaGreatChsP6
import Derived.Test.YtnlimogbokkfpaaGreatChsP8
import Derived.Test.YtnlimogbokkfpaaGreatChsW2
import Derived.Test.YtnlimogbokkfpaaGreatChsD1
import Derived.Test.YtnlimogbokkfpaaGreatChecked
set_option maxRecDepth 100000
set_option linter.unusedSimpArgs false
set_option linter.unusedVariables false
namespace Go.Proofs.YtnlimogbokkfpaaGreat.raft
open Go.Ahs

/-- A peer's mark: what the two functions tell that are handed in. -/
def markOf : FuncId → AVal → Option AVal
  | 122, .agg [.int .u64 _, .int .u64 _, .int .u64 z, .int .u64 _, .int .u8 _] => some (.int .u64 z)
  | 160, .agg [.int .u64 z, .int .u64 _, .int .u64 _, .int .u64 _, .int .u8 _] => some (.int .u64 z)
  | _, _ => none
def entOK (f : FuncId) (e : AVal × AVal) : Bool := match natOf e.1, markOf f e.2 with
  | some k, some _ => decide (k < 6)
  | _, _ => false
def putE (f : FuncId) (ms : List AVal) (e : AVal × AVal) : List AVal := match natOf e.1, markOf f e.2 with
  | some k, some z => ms.set k z
  | _, _ => ms
def sameK : Option Nat → Option Nat → Bool
  | some a, some b => Nat.beq a b
  | _, _ => true
def apartE : List (AVal × AVal) → Bool
  | [] => true
  | e :: es => es.all (fun f => !sameK (natOf e.1) (natOf f.1)) && apartE es

theorem sameK_comm (a b : Option Nat) : sameK a b = sameK b a := by
  cases a <;> cases b <;> try rfl
  rename_i a b
  simp only [sameK]
  by_cases h : a = b
  · rw [h]
  · have h1 : Nat.beq a b = false := by rw [← Bool.not_eq_true]; exact fun e => h (Nat.eq_of_beq_eq_true e)
    have h2 : Nat.beq b a = false := by rw [← Bool.not_eq_true]; exact fun e => h (Nat.eq_of_beq_eq_true e).symm
    rw [h1, h2]

theorem apart_eq : ∀ {es : List (AVal × AVal)}, apartE es = true → ∀ x ∈ es, ∀ y ∈ es, sameK (natOf x.1) (natOf y.1) = true → x = y
  | [], _, x, hx, _, _, _ => by simp at hx
  | e :: es, h, x, hx, y, hy, hs => by
    simp only [apartE, Bool.and_eq_true, List.all_eq_true] at h
    rcases List.mem_cons.1 hx with rfl | hx
    · rcases List.mem_cons.1 hy with rfl | hy
      · rfl
      · have := h.1 y hy; rw [hs] at this; simp at this
    · rcases List.mem_cons.1 hy with rfl | hy
      · have := h.1 x (by assumption); rw [sameK_comm, hs] at this; simp at this
      · exact apart_eq h.2 x hx y hy hs

theorem putE_comm {f : FuncId} {x y : AVal × AVal} (h : sameK (natOf x.1) (natOf y.1) = true → x = y) (z : List AVal) : putE f (putE f z x) y = putE f (putE f z y) x := by
  by_cases hxy : x = y
  · rw [hxy]
  · unfold putE
    cases h1 : natOf x.1 with
    | none => rfl
    | some a =>
      cases h2 : natOf y.1 with
      | none => rfl
      | some b =>
        cases h3 : markOf f x.2 <;> cases h4 : markOf f y.2 <;> try rfl
        have hne : a ≠ b := fun e => hxy (h (by rw [h1, h2, e]; simp [sameK]))
        exact List.set_comm _ _ hne

theorem fold_perm {f : FuncId} {es es' : List (AVal × AVal)} (ha : apartE es = true) (hp : es.Perm es') (z : List AVal) : es.foldl (putE f) z = es'.foldl (putE f) z :=
  hp.foldl_eq' (fun x hx y hy z => putE_comm (apart_eq ha x hx y hy) z) z

theorem putE_len (f : FuncId) (z : List AVal) (e : AVal × AVal) : (putE f z e).length = z.length := by
  unfold putE; split <;> simp

def body121 : ACode := match f121.body with
  | .seq _ (.seq _ (.seq (.seq _ (.block _ (.loop b))) _)) => b
  | _ => .skip

theorem apart_perm {es es' : List (AVal × AVal)} (hp : es.Perm es') : apartE es = true → apartE es' = true := by
  induction hp with
  | nil => exact id
  | cons e hp ih =>
    intro h
    simp only [apartE, Bool.and_eq_true, List.all_eq_true] at h ⊢
    exact ⟨fun x hx => h.1 x (hp.mem_iff.2 hx), ih h.2⟩
  | swap a b l =>
    intro h
    simp only [apartE, Bool.and_eq_true, List.all_eq_true, List.mem_cons, forall_eq_or_imp] at h ⊢
    exact ⟨⟨by rw [sameK_comm]; exact h.1.1, h.2.1⟩, h.1.2, h.2.2⟩
  | trans _ _ h1 h2 => exact fun h => h2 (h1 h)

section
variable {R : Caller} {RP : CallerP} {lim0 lim n : Nat} {H : Heap}

theorem reg {ops : List AOper} {s : PSt} {K : KP} {s1 : St} (h : execOps R lim ops ⟨s.tmps, s.H⟩ = some s1) (hk : K .norm ⟨s1.tmps, s1.H, s.it⟩) : execP R RP lim0 lim n (.region ops) s K := .inl ⟨s1, h, hk⟩

theorem put_one {cs : List AVal} {o : Nat} {x : AVal} (ho : o < cs.length) : put cs o [x] = cs.set o x := by
  unfold put
  rw [List.set_eq_take_append_cons_drop, if_pos ho]
  simp

set_option maxHeartbeats 4000000 in
theorem level_loop {K : KP} {c b : Nat} {own : Int} {f : FuncId} {r : Nat} {mb : Option Nat}
    (hR : ∀ v z, markOf f v = some z → ∀ H, lim ≤ H.next → ∃ x, R lim (.fn f) [v] H = some (z, H.push x)) : ∀ (m : Nat) (left : List (AVal × AVal)) (ms : List AVal) (H : Heap) (T : List AVal) (cur : Option (AVal × AVal)), left.length < m → lim ≤ b → H.cells b = some ms → ms.length = 6 → (left.all (entOK f)) = true → apartE left = true →
    (∃ t3 t4 t5 t6 t8 t9 t10 t11 t12 t13 t15 t16 t17 t18 t19 t20 t21 t22 t23 t24 t25 t26 t27 t28 t29 t30 t31 t32 t33 t34 : AVal, T = [.ptr (some (c, 0)), .int .u64 own, .fn f [] [], t3, t4, t5, t6, .ptr (some (b, 0)), t8, t9, t10, t11, t12, t13, .itr r, t15, t16, t17, t18, t19, t20, t21, t22, t23, t24, t25, t26, t27, t28, t29, t30, t31, t32, t33, t34]) →
    (∀ T' H' it', (∃ t3 t4 t5 t6 t8 t9 t10 t11 t12 t13 t15 t16 t17 t18 t19 t20 t21 t22 t23 t24 t25 t26 t27 t28 t29 t30 t31 t32 t33 t34 : AVal, T' = [.ptr (some (c, 0)), .int .u64 own, .fn f [] [], t3, t4, t5, t6, .ptr (some (b, 0)), t8, t9, t10, t11, t12, t13, .itr r, t15, t16, t17, t18, t19, t20, t21, t22, t23, t24, t25, t26, t27, t28, t29, t30, t31, t32, t33, t34]) →
      H'.next = H.next + 2 * left.length → H'.cells b = some (left.foldl (putE f) ms) → (∀ d, d < H.next → d ≠ b → H'.get d = H.get d) → K (.exit 0) ⟨T', H', it'⟩) →
    loopP (execP R RP lim0 lim n body121) m ⟨T, H, some ⟨r, mb, left, cur⟩⟩ K
  | 0, left, ms, H, T, cur, h1, _, _, _, _, _, _, _ => by omega
  | m + 1, left, ms, H, T, cur, h1, hl, hms, hlen, hok, hap, ⟨t3, t4, t5, t6, t8, t9, t10, t11, t12, t13, t15, t16, t17, t18, t19, t20, t21, t22, t23, t24, t25, t26, t27, t28, t29, t30, t31, t32, t33, t34, hT⟩, hK => by
    subst hT
    have hbn := Heap.cells_lt hms
    unfold loopP
    show execP R RP lim0 lim n (.seq (.region _) (.seq (.cond _ .skip (.exit 0)) (.block 1 _))) _ _
    refine execP_seq (execP_reg ?_)
    refine opsP_next rfl rfl rfl rfl ?_ ?_
    · intro hleft
      simp only at hleft
      subst hleft
      refine opsP_v rfl rfl rfl rfl _ rfl rfl (opsP_nil ?_)
      refine execP_seq (execP_cond false rfl (fun e => by simp at e) fun _ => execP_exit ?_)
      exact hK _ _ _ ⟨_, _, _, _, _, _, _, _, _, _, _, _, _, _, _, _, _, _, _, _, _, _, _, _, _, _, _, _, _, _, rfl⟩ rfl hms (fun _ _ _ => rfl)
    · intro k v rest hp
      simp only at hp
      refine opsP_v rfl rfl rfl rfl _ rfl rfl (opsP_nil ?_)
      refine execP_seq (execP_cond true rfl (fun _ => execP_skip ?_) fun e => by simp at e)
      have hmem : (k, v) ∈ left := hp.mem_iff.2 (by simp)
      have hent := List.all_eq_true.1 hok _ hmem
      have hl1 : left.length = rest.length + 1 := by rw [hp.length_eq]; rfl
      have hapr := apart_perm hp hap
      have hfold := fold_perm (f := f) hap hp ms
      have hokr : (rest.all (entOK f)) = true := by
        rw [List.all_eq_true] at hok ⊢
        exact fun e he => hok e (hp.mem_iff.2 (by simp [he]))
      unfold entOK at hent
      split at hent <;> try (simp at hent; done)
      rename_i j z hj hz
      simp only at hj hz
      simp only [decide_eq_true_eq] at hent
      rw [hfold] at hK
      rw [List.foldl_cons] at hK
      have hput : putE f ms (k, v) = ms.set j z := by unfold putE; simp only [hj, hz]
      rw [hput] at hK
      simp only [apartE, Bool.and_eq_true] at hapr
      obtain ⟨a1, a2, a3, a4, a5, rfl⟩ : ∃ a1 a2 a3 a4 a5 : Int, v = .agg [.int .u64 a1, .int .u64 a2, .int .u64 a3, .int .u64 a4, .int .u8 a5] := by
        unfold markOf at hz
        split at hz
        · exact ⟨_, _, _, _, _, rfl⟩
        · exact ⟨_, _, _, _, _, rfl⟩
        · simp at hz
      have hz1 : z.cells = [z] ∧ z.one = true := by
        unfold markOf at hz
        split at hz <;> first | (simp at hz; done) | (simp only [Option.some.injEq] at hz; subst hz; exact ⟨rfl, rfl⟩)
      refine execP_block (execP_seq (execP_reg ?_))
      refine opsP_entry rfl rfl rfl rfl rfl ?_
      refine opsP_v rfl rfl rfl rfl _ rfl rfl ?_
      refine opsP_v rfl rfl rfl rfl _ rfl rfl ?_
      refine opsP_1 rfl rfl rfl rfl rfl ?_
      refine opsP_v rfl rfl rfl rfl _ rfl rfl ?_
      refine opsP_st rfl rfl rfl rfl (astore_new (cs := [(.int .u64 0), (.int .u64 0), (.int .u64 0), (.int .u64 0), (.int .u8 0)]) (x := .agg [.int .u64 a1, .int .u64 a2, .int .u64 a3, .int .u64 a4, .int .u8 a5]) (show lim ≤ H.next from Nat.le_of_lt (Nat.lt_of_le_of_lt hl hbn)) rfl rfl rfl) (opsP_nil ?_)
      refine execP_reg ?_
      refine opsP_v rfl rfl rfl rfl _ rfl rfl ?_
      refine opsP_v rfl rfl rfl rfl _ rfl rfl ?_
      refine opsP_v rfl rfl rfl rfl _ rfl (aload_newA H rfl) ?_
      obtain ⟨H3, hx, h3n, h3c, h3g⟩ : ∃ H3, R lim (.fn f) [.agg [.int .u64 a1, .int .u64 a2, .int .u64 a3, .int .u64 a4, .int .u8 a5]] (H.push (.cells [.int .u64 a1, .int .u64 a2, .int .u64 a3, .int .u64 a4, .int .u8 a5])) = some (z, H3) ∧ H3.next = H.next + 2 ∧ H3.cells b = some ms ∧ ∀ d, d < H.next → H3.get d = H.get d := by
        obtain ⟨x, hx⟩ := hR _ z hz (H.push (.cells [.int .u64 a1, .int .u64 a2, .int .u64 a3, .int .u64 a4, .int .u8 a5])) (by rw [Heap.next_push]; omega)
        exact ⟨_, hx, by rw [Heap.next_push, Heap.next_push], cells_push_old (cells_push_old hms), fun d hd => by rw [Heap.get_push_old _ _ _ (by rw [Heap.next_push]; omega), Heap.get_push_old _ _ _ (by omega)]⟩
      refine opsP_callv rfl rfl rfl rfl rfl hx ?_
      refine opsP_v (v := .ptr (some (b, 0 + j * 1))) rfl rfl rfl rfl _ rfl ?_ ?_
      · show aindexAddr (some 6) 1 (.ptr (some (b, 0))) k = _
        unfold aindexAddr
        simp only [hj, hent, if_true]
      have hst : astore lim H3 1 (.ptr (some (b, 0 + j * 1))) z = some (H3.set b (.cells (ms.set j z))) := by
        rw [astore_at (lim := lim) (n := 1) (o := 0 + j * 1) (x := z) h3c hl (by rw [hz1.1]; rfl) (by omega) (by rw [hz1.1]; simp [hz1.2]), hz1.1, put_one (by omega), show 0 + j * 1 = j by omega]
      refine opsP_st rfl rfl rfl rfl hst (opsP_nil ?_)
      refine level_loop hR m rest (ms.set j z) _ _ _ (by omega) hl (cells_set_same (by omega)) (by simp [hlen]) hokr hapr.2 ⟨_, _, _, _, _, _, _, _, _, _, _, _, _, _, _, _, _, _, _, _, _, _, _, _, _, _, _, _, _, _, rfl⟩ ?_
      intro T' H' it' hT' hn hc hg
      rw [Heap.next_set] at hn hg
      refine hK T' H' it' hT' (by omega) hc (fun d hd hne => ?_)
      rw [hg d (by omega) hne, Heap.get_set_other _ _ _ _ hne, h3g d hd]
end
end Go.Proofs.YtnlimogbokkfpaaGreat.raft
