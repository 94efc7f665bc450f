/- many: how many principals a slot has. -/
import Derived.Test.YtbhnnbcdhneolaaGreatGtPrim
import Derived.Test.YtbhnnbcdhneolaaGreatChsA20
import Derived.Test.YtbhnnbcdhneolaaGreatChsP6
import Derived.Test.YtbhnnbcdhneolaaGreatChecked
set_option maxRecDepth 100000
set_option linter.unusedSimpArgs false
set_option linter.unusedVariables false
namespace Go.Proofs.YtbhnnbcdhneolaaGreat.gate
open Go.Ahs

theorem i64_succ {i : Nat} (h : i < 9223372036854775807) : IntKind.i64.wrap ((i : Int) + 1) = ((i + 1 : Nat) : Int) := wrap_id (by show (-9223372036854775808 : Int) ≤ _; omega) (by show _ ≤ (9223372036854775807 : Int); omega)

section
variable {R : Caller} {RP : CallerP} {lim0 lim n : Nat} {H : Heap}

theorem reg {ops : List AOper} {s : PSt} {K : KP} {s1 : St} (h : execOps R lim ops ⟨s.tmps, s.H⟩ = some s1) (hk : K .norm ⟨s1.tmps, s1.H, s.it⟩) : execP R RP lim0 lim n (.region ops) s K := .inl ⟨s1, h, hk⟩

def body211 : ACode := match f211.body with
  | .seq _ (.seq _ (.seq (.seq _ (.block _ (.loop b))) _)) => b
  | _ => .skip

set_option maxHeartbeats 4000000 in
theorem many_loop {K : KP} {c : AVal} {r : Nat} {mb : Option Nat} {s : Int} : ∀ (m : Nat) (left : List (AVal × AVal)) (cnt : Nat) (H : Heap) (T : List AVal) (cur : Option (AVal × AVal)), left.length < m → lim ≤ H.next → cnt + left.length < 9223372036854775807 → (left.all entOK) = true →
    (∃ t4 t7 t13 t14 t15 t16 t17 t18 t19 t20 t21 t22 t23 t8 t9 t10 t11 t6 t3 t2 : AVal, T = [c, .int .u8 s, t2, t3, t4, .int .i64 (cnt : Int), t6, t7, t8, t9, t10, t11, .itr r, t13, t14, t15, t16, t17, t18, t19, t20, t21, t22, t23]) →
    (∀ T' H' it', (∃ t4 t7 t13 t14 t15 t16 t17 t18 t19 t20 t21 t22 t23 t8 t9 t10 t11 t6 t3 t2 : AVal, T' = [c, .int .u8 s, t2, t3, t4, .int .i64 ((cnt + left.countP fun e => slotOf e.2 == some s : Nat) : Int), t6, t7, t8, t9, t10, t11, .itr r, t13, t14, t15, t16, t17, t18, t19, t20, t21, t22, t23]) →
      H'.next = H.next + left.length → (∀ b, b < H.next → H'.get b = H.get b) → K (.exit 0) ⟨T', H', it'⟩) →
    loopP (execP R RP lim0 lim n body211) m ⟨T, H, some ⟨r, mb, left, cur⟩⟩ K
  | 0, left, cnt, H, T, cur, h1, _, _, _, _, _ => by omega
  | m + 1, left, cnt, H, T, cur, h1, hl, hcnt, hok, ⟨t4, t7, t13, t14, t15, t16, t17, t18, t19, t20, t21, t22, t23, t8, t9, t10, t11, t6, t3, t2, hT⟩, hK => by
    subst hT
    unfold loopP
    show execP R RP lim0 lim n (.seq (.region _) (.seq (.cond _ .skip (.exit 0)) (.block 1 _))) _ _
    refine .inr ⟨rfl, rfl, _, rfl, rfl, ?_, ?_⟩
    · intro hleft
      simp only at hleft
      subst hleft
      refine ⟨_, rfl, ?_⟩
      refine ⟨false, rfl, fun e => by simp at e, fun _ => ?_⟩
      exact hK _ _ _ ⟨_, _, _, _, _, _, _, _, _, _, _, _, _, _, _, _, _, _, _, _, rfl⟩ rfl (fun _ _ => rfl)
    · intro k v rest hp
      simp only at hp
      refine ⟨_, rfl, ?_⟩
      refine ⟨true, rfl, fun _ => ?_, fun e => by simp at e⟩
      have hmem : (k, v) ∈ left := hp.mem_iff.2 (by simp)
      have hent := List.all_eq_true.1 hok _ hmem
      obtain ⟨a, b, rfl⟩ : ∃ a b : Int, v = .agg [.int .u8 a, .int .u8 b] := by
        simp only [entOK, Bool.and_eq_true] at hent
        have h2 := hent.1.1
        unfold slotOf at h2
        split at h2
        · exact ⟨_, _, rfl⟩
        · simp at h2
      have hlen : left.length = rest.length + 1 := by rw [hp.length_eq]; rfl
      have hcount : (left.countP fun e => slotOf e.2 == some s) = (rest.countP fun e => slotOf e.2 == some s) + if a = s then 1 else 0 := by
        rw [hp.countP_eq, List.countP_cons]
        simp [slotOf]
      have hokr : (rest.all entOK) = true := by
        rw [List.all_eq_true] at hok ⊢
        exact fun e he => hok e (hp.mem_iff.2 (by simp [he]))
      refine execP_skip ?_
      refine execP_block (execP_seq (execP_reg ?_))
      refine opsP_entry rfl rfl rfl rfl rfl ?_
      refine opsP_v rfl rfl rfl rfl _ rfl rfl ?_
      refine opsP_1 rfl rfl rfl rfl rfl ?_
      refine opsP_st rfl rfl rfl rfl (astore_new (cs := [(.int .u8 0), (.int .u8 0)]) (x := .agg [.int .u8 a, .int .u8 b]) hl rfl rfl rfl) (opsP_nil ?_)
      refine execP_seq (execP_reg ?_)
      refine opsP_v rfl rfl rfl rfl _ rfl rfl ?_
      refine opsP_v rfl rfl rfl rfl _ rfl (aload_new1 H _ _) ?_
      refine opsP_v rfl rfl rfl rfl _ rfl rfl ?_
      refine opsP_v rfl rfl rfl rfl _ rfl (abin_eql _ _ _) (opsP_nil ?_)
      by_cases he : a = s
      · refine execP_cond true (by show AVal.bool _ = _; rw [he]; simp) (fun _ => ?_) (fun e => by simp at e)
        refine execP_reg ?_
        refine opsP_v rfl rfl rfl rfl _ rfl rfl ?_
        refine opsP_v (v := .int .i64 (IntKind.i64.wrap ((cnt : Int) + 1))) rfl rfl rfl rfl _ rfl (abin_add _ _ _) ?_
        rw [i64_succ (show cnt < 9223372036854775807 by omega)]
        refine opsP_v rfl rfl rfl rfl _ rfl rfl (opsP_nil ?_)
        refine many_loop m rest (cnt + 1) (H.push (.cells [.int .u8 a, .int .u8 b])) _ _ (by omega) (by rw [Heap.next_push]; omega) (by omega) hokr ⟨_, _, _, _, _, _, _, _, _, _, _, _, _, _, _, _, _, _, _, _, rfl⟩ ?_
        intro T' H' it' hT' hn hg
        rw [Heap.next_push] at hn
        refine hK T' H' it' ?_ (by omega) (fun b' hb => by rw [hg b' (by rw [Heap.next_push]; omega), Heap.get_push_old _ _ _ (by omega)])
        rw [hcount, if_pos he, show cnt + ((rest.countP fun e => slotOf e.2 == some s) + 1) = cnt + 1 + (rest.countP fun e => slotOf e.2 == some s) by omega]
        exact hT'
      · refine execP_cond false (by show AVal.bool _ = _; simp [he]) (fun e => by simp at e) (fun _ => ?_)
        refine execP_skip ?_
        refine many_loop m rest cnt (H.push (.cells [.int .u8 a, .int .u8 b])) _ _ (by omega) (by rw [Heap.next_push]; omega) (by omega) hokr ⟨_, _, _, _, _, _, _, _, _, _, _, _, _, _, _, _, _, _, _, _, rfl⟩ ?_
        intro T' H' it' hT' hn hg
        rw [Heap.next_push] at hn
        refine hK T' H' it' ?_ (by omega) (fun b' hb => by rw [hg b' (by rw [Heap.next_push]; omega), Heap.get_push_old _ _ _ (by omega)])
        rw [hcount, if_neg he, Nat.add_zero]
        exact hT'

end

theorem esOK_iff {es : List (AVal × AVal)} (h : esOK es = true) : es.all entOK = true ∧ apartE es = true := by
  unfold esOK at h; simpa using h

theorem mapEs_some {H : Heap} {m : AVal} {es : List (AVal × AVal)} (h : mapEs H m = some es) : (m = .map none ∧ es = []) ∨ ∃ b clock, m = .map (some b) ∧ H.get b = some (.map es clock) ∧ b < H.next := by
  unfold mapEs at h
  split at h
  · simp at h; exact .inl ⟨rfl, h⟩
  · rename_i b
    split at h
    · rename_i es' cl hg
      simp at h; subst h
      refine .inr ⟨b, cl, rfl, hg, ?_⟩
      rcases Nat.lt_or_ge b H.next with g | g
      · exact g
      · rw [Heap.get_ge _ _ g] at hg; simp at hg
    · simp at h
  · simp at h

def dp : List (Nat × AFunc) := [(211, f211), (212, f212)]
theorem dpOK : DpOK Tryz.prog fun f => dp.lookup f :=
  dp_ok (l := dp) ⟨⟨c211, by kernel_rfl⟩, ⟨c212, by kernel_rfl⟩, trivial⟩

set_option maxHeartbeats 4000000 in
theorem many_ok : PrimOK Tryz.prog 211 g211 := by
  refine PrimOK.drawn Tryz.checked.mixed ap_ok dpOK (f := 211) (af := f211) rfl ?_ ?_
  · intro lim args H v H' hl h
    unfold g211 at h
    split at h <;> try (simp at h; done)
    split at h <;> try (simp at h; done)
    split at h <;> try (simp at h; done)
    split at h <;> try (simp at h; done)
    split at h <;> try (simp at h; done)
    simp at h
    obtain ⟨_, rfl⟩ := h
    exact ⟨by rw [pushDead_next]; omega, fun b hb => pushDead_old _ (by omega)⟩
  · intro lim args H v H' hl h
    unfold g211 at h
    split at h <;> try (simp at h; done)
    rename_i c s
    split at h <;> try (simp at h; done)
    rename_i cs hcs
    split at h <;> try (simp at h; done)
    rename_i m hm
    split at h <;> try (simp at h; done)
    rename_i es hes
    split at h <;> try (simp at h; done)
    rename_i hok
    simp only [Option.some.injEq, Prod.mk.injEq] at h
    obtain ⟨rfl, rfl⟩ := h
    simp only [Bool.and_eq_true, decide_eq_true_eq] at hok
    refine ⟨es.length + 2, .inr ⟨211, f211, rfl, rfl, ?_⟩⟩
    refine execP_seq (execP_reg (opsP_v rfl rfl rfl rfl _ rfl rfl (opsP_nil ?_)))
    refine execP_seq (execP_reg (opsP_v rfl rfl rfl rfl _ rfl rfl (opsP_nil ?_)))
    refine execP_seq (execP_seq (execP_reg ?_))
    refine opsP_v rfl rfl rfl rfl _ rfl rfl ?_
    refine opsP_v rfl rfl rfl rfl _ rfl rfl ?_
    refine opsP_v rfl rfl rfl rfl _ rfl rfl ?_
    refine opsP_v (v := m) rfl rfl rfl rfl _ rfl ?_ ?_
    · show aload H none (.ptr (some (c, 16))) = some m
      simp [aload, hcs, hm]
    refine opsP_range rfl rfl rfl rfl es (mapEs_some hes) fun r mb hmb => opsP_nil ?_
    refine execP_block ?_
    refine many_loop (n := es.length + 1) (s := s) (es.length + 1) es 0 H _ _ (by omega) (Nat.le_refl _) (by omega) (esOK_iff hok.1).1 ⟨_, _, _, _, _, _, _, _, _, _, _, _, _, _, _, _, _, _, _, _, rfl⟩ ?_
    intro T' H1 it' hT' hn hg
    obtain ⟨t4, t7, t13, t14, t15, t16, t17, t18, t19, t20, t21, t22, t23, t8, t9, t10, t11, t6, t3, t2, hT'⟩ := hT'
    simp only [Nat.zero_add] at hT'
    subst hT'
    refine execP_seq (execP_reg ?_)
    refine opsP_v rfl rfl rfl rfl _ rfl rfl ?_
    refine opsP_v rfl rfl rfl rfl _ rfl rfl (opsP_nil ?_)
    refine ⟨fun id => by simp, _, rfl, ?_, forget_dead hn hg⟩
    rfl
end Go.Proofs.YtbhnnbcdhneolaaGreat.gate
