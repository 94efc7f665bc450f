/- slices.SortedFunc of maps.Keys, of a map of one entry at most. -/
import Derived.Test.YtjflpnahjooffaaCkDel
set_option maxRecDepth 100000
set_option linter.unusedSimpArgs false
set_option linter.unusedVariables false
namespace Go.Proofs.Ytjflpnahjooffaa.cat
open Go.Ahs

theorem sort1 (lim : Nat) (H : Heap) (b : Nat) : Ahs.runT ap 19 lim (.fn 102) [.sl (some (b, 0)) 1 (.op 8), .fn 69 [] []] H = some (.tup [], H) := by kernel_rfl
theorem sort0 (lim : Nat) (H : Heap) : Ahs.runT ap 19 lim (.fn 102) [.sl none 0 (.ex 0), .fn 69 [] []] H = some (.tup [], H) := by kernel_rfl

def asg117 : ACode := match f117.body with
  | .seq _ (.seq (.seq _ (.block _ (.ranges _ _ a _))) _) => a
  | _ => .skip
def body117 : ACode := match f117.body with
  | .seq _ (.seq (.seq _ (.block _ (.ranges _ _ _ b))) _) => b
  | _ => .skip
def Sh117 (bx : Nat) (q : AVal) (T : List AVal) : Prop := ∃ t0 t4 t5 t6 t7 t8 t9 t10 t11 t12 : AVal, T = [t0, q, .ptr (some (bx, 0)), .sl none 0 (.ex 0), t4, t5, t6, t7, t8, t9, t10, t11, t12]

theorem round117 {n lim b bx : Nat} {H : Heap} {T : List AVal} {cs : List AVal} (hb : H.get b = some (.loop ⟨.ready, none, T, [7], asg117, body117⟩)) (hbl : lim ≤ b) (hx : H.cells bx = some [.sl none 0 (.ex 0)]) (hxl : lim ≤ bx) (h8 : cs.length = 8) (hcs : cs.all (·.one) = true)
    (hT : ∃ t0 t1 t3 t4 t5 t6 t7 t8 t9 t10 t11 t12 : AVal, T = [t0, t1, .ptr (some (bx, 0)), t3, t4, t5, t6, t7, t8, t9, t10, t11, t12]) :
    ∃ H' T', Ahs.runT ap (n + 1) lim (.yl b) [.agg cs] H = some (.bool true, H') ∧ H'.next = H.next + 3 ∧ H'.get b = some (.loop ⟨.ready, none, T', [7], asg117, body117⟩) ∧ H'.cells bx = some [.sl (some (H.next + 2, 0)) 1 (.op 8)] ∧ H'.cells (H.next + 2) = some cs ∧
      ∀ c, c < H.next → c ≠ b → c ≠ bx → H'.get c = H.get c := by
  obtain ⟨t0, t1, t3, t4, t5, t6, t7, t8, t9, t10, t11, t12, rfl⟩ := hT
  have hbn := Heap.get_lt hb
  have hxn := Heap.cells_lt hx
  have hbx : b ≠ bx := by
    intro e; subst e
    rw [Heap.cells_eq] at hx; rw [hb] at hx; simp at hx
  -- the round's own copy
  have st1 : astore lim (H.push (.cells z8)) 8 (.ptr (some (H.next, 0))) (.agg cs) = some (H.push (.cells cs)) := astore_new (x := .agg cs) (by omega) h8 rfl hcs
  have g1 : (H.push (.cells cs)).get b = some (.loop ⟨.ready, none, [t0, t1, .ptr (some (bx, 0)), t3, t4, t5, t6, t7, t8, t9, t10, t11, t12], [7], asg117, body117⟩) := by rw [Heap.get_push_old _ _ _ (by omega)]; exact hb
  -- the body
  obtain ⟨H2, hH2⟩ : ∃ H2, H2 = (H.push (.cells cs)).set b (.loop ⟨.busy, none, [t0, t1, .ptr (some (bx, 0)), t3, t4, t5, t6, t7, t8, t9, t10, t11, t12], [7], asg117, body117⟩) := ⟨_, rfl⟩
  have n2 : H2.next = H.next + 1 := by rw [hH2, Heap.next_set, Heap.next_push]
  have x2 : H2.cells bx = some [.sl none 0 (.ex 0)] := by rw [hH2]; exact cells_set_other (cells_push_old hx) (by omega)
  have c2 : H2.cells H.next = some cs := by rw [hH2]; exact cells_set_other (cells_push_new H cs) (by omega)
  have l2 : aload H2 none (.ptr (some (bx, 0))) = some (.sl none 0 (.ex 0)) := by rw [aload_one x2]; rfl
  have l3 : aload H2 (some 8) (.ptr (some (H.next, 0))) = some (.agg cs) := by
    rw [aload_agg c2]
    simp only [Ahs.cut, Nat.zero_add, h8, Nat.le_refl, if_true, List.drop_zero, Option.map_some]
    rw [List.take_of_length_le (by omega)]
  have p8 : put z8 0 cs = cs := put_all (by rw [h8]; rfl)
  have n3 : (H2.push (.cells cs)).next = H.next + 2 := by rw [Heap.next_push, n2]
  have src : source (H2.push (.cells cs)) 8 (.sl (some (H2.next, 0)) 1 (.ex 1)) = some (1, cs) := by
    simp only [source, cells_push_new, Option.bind_eq_bind, Option.bind_some, Ahs.cut]
    simp [h8, List.take_of_length_le]
  have ap1 : aappend lim (H2.push (.cells cs)) z8 8 false (.sl none 0 (.ex 0)) (.sl (some (H2.next, 0)) 1 (.ex 1)) = some (.sl (some ((H2.push (.cells cs)).next, 0)) 1 (.op 8), (H2.push (.cells cs)).push (.cells cs)) := by
    rw [aappend_eq (m := 1) (new := cs) src hcs (by decide)]
    rfl
  have x4 : ((H2.push (.cells cs)).push (.cells cs)).cells bx = some [.sl none 0 (.ex 0)] := cells_push_old (cells_push_old x2)
  have st4 : astore lim ((H2.push (.cells cs)).push (.cells cs)) 1 (.ptr (some (bx, 0))) (.sl (some ((H2.push (.cells cs)).next, 0)) 1 (.op 8)) = some (((H2.push (.cells cs)).push (.cells cs)).set bx (.cells [.sl (some ((H2.push (.cells cs)).next, 0)) 1 (.op 8)])) :=
    astore_at (x := .sl (some ((H2.push (.cells cs)).next, 0)) 1 (.op 8)) x4 hxl rfl (by decide) rfl
  have g5 : (((H2.push (.cells cs)).push (.cells cs)).set bx (.cells [.sl (some ((H2.push (.cells cs)).next, 0)) 1 (.op 8)])).get b = some (.loop ⟨.busy, none, [t0, t1, .ptr (some (bx, 0)), t3, t4, t5, t6, t7, t8, t9, t10, t11, t12], [7], asg117, body117⟩) := by
    rw [Heap.get_set_other _ _ _ _ hbx, Heap.get_push_old _ _ _ (by omega), Heap.get_push_old _ _ _ (by omega), hH2, Heap.get_set_same _ _ _ (by rw [Heap.next_push]; omega)]
  have n5 : ((H2.push (.cells cs)).push (.cells cs)).next = H.next + 3 := by rw [Heap.next_push, n3]
  obtain ⟨H5, hH5⟩ : ∃ H5, H5 = (((H2.push (.cells cs)).push (.cells cs)).set bx (.cells [.sl (some ((H2.push (.cells cs)).next, 0)) 1 (.op 8)])) := ⟨_, rfl⟩
  have bs : Ahs.step (Ahs.runT ap n) lim (St.ev [t0, t1, .ptr (some (bx, 0)), t3, t4, .ptr (some (H.next, 0)), t6, .agg cs, .sl none 0 (.ex 0), .agg cs, t10, t11, t12]) H2 (.buildSlice z8 1 [⟨0, ⟨8, (.tmp 9)⟩⟩]) = some (.sl (some (H2.next, 0)) 1 (.ex 1), H2.push (.cells cs)) := by
    show (fillAll (St.ev [t0, t1, .ptr (some (bx, 0)), t3, t4, .ptr (some (H.next, 0)), t6, .agg cs, .sl none 0 (.ex 0), .agg cs, t10, t11, t12]) z8 [⟨0, ⟨8, (.tmp 9)⟩⟩]).map _ = _
    have : fillAll (St.ev [t0, t1, .ptr (some (bx, 0)), t3, t4, .ptr (some (H.next, 0)), t6, .agg cs, .sl none 0 (.ex 0), .agg cs, t10, t11, t12]) z8 [⟨0, ⟨8, (.tmp 9)⟩⟩] = some cs := by
      have hev : St.ev [t0, t1, .ptr (some (bx, 0)), t3, t4, .ptr (some (H.next, 0)), t6, .agg cs, .sl none 0 (.ex 0), .agg cs, t10, t11, t12] (.tmp 9) = .agg cs := rfl
      simp only [fillAll, hev, AVal.cells]
      rw [if_pos ⟨h8, by decide⟩, p8]
    rw [this]; rfl
  have hrun : Ahs.runT ap (n + 1) lim (.yl b) [.agg cs] H = some (.bool true, H5.set b (.loop ⟨.ready, none, [t0, t1, .ptr (some (bx, 0)), t3, t4, t5, t6, t7, t8, t9, t10, t11, t12], [7], asg117, body117⟩)) := by
    show roundF (exec (Ahs.runT ap n) lim n) lim b [.agg cs] H = _
    rw [← hH5] at st4 g5
    have e1 : exec (Ahs.runT ap n) lim n asg117 ⟨putAll [t0, t1, .ptr (some (bx, 0)), t3, t4, t5, t6, t7, t8, t9, t10, t11, t12] [7] [.agg cs], H⟩ = some (.norm, ⟨[t0, t1, .ptr (some (bx, 0)), t3, t4, .ptr (some (H.next, 0)), t6, .agg cs, t8, t9, t10, t11, t12], H.push (.cells cs)⟩) := by
      refine x_reg (x_1 rfl rfl rfl rfl (x_1 (v := und) (H' := H.push (.cells cs)) rfl rfl rfl ?_ x_nil))
      show (astore lim (H.push (.cells z8)) 8 (.ptr (some (H.next, 0))) (.agg cs)).map _ = _
      rw [st1]; rfl
    have e2 : exec (Ahs.runT ap n) lim n body117 ⟨[t0, t1, .ptr (some (bx, 0)), t3, t4, .ptr (some (H.next, 0)), t6, .agg cs, t8, t9, t10, t11, t12], H2⟩ = some (.norm, ⟨[t0, t1, .ptr (some (bx, 0)), t3, t4, .ptr (some (H.next, 0)), t6, .agg cs, .sl none 0 (.ex 0), .agg cs, .sl (some (H2.next, 0)) 1 (.ex 1), .sl (some ((H2.push (.cells cs)).next, 0)) 1 (.op 8), t12], H5⟩) := by
      refine x_block (x_reg (x_v rfl rfl rfl _ rfl l2 (x_v rfl rfl rfl _ rfl l3 (x_1 rfl rfl rfl bs (x_1 rfl rfl rfl ap1 (x_1 (v := und) (H' := H5) rfl rfl rfl ?_ x_nil))))))
      show (astore lim ((H2.push (.cells cs)).push (.cells cs)) 1 (.ptr (some (bx, 0))) (.sl (some ((H2.push (.cells cs)).next, 0)) 1 (.op 8))).map _ = _
      rw [st4]; rfl
    rw [hH2] at e2
    exact x_round hb hbl rfl e1 g1 e2 g5
  have nn : H5.next = H.next + 3 := by rw [hH5, Heap.next_set, n5]
  refine ⟨_, _, hrun, nn, Heap.get_set_same _ _ _ (by omega), ?_, ?_, ?_⟩
  · refine cells_set_other ?_ (by omega)
    rw [hH5, ← n3]
    exact cells_set_same (by rw [n5]; omega)
  · refine cells_set_other ?_ (by omega)
    rw [hH5, ← n3]
    exact cells_set_other (cells_push_new (H2.push (.cells cs)) cs) (by omega)
  · intro c hc hcb hcx
    rw [Heap.get_set_other _ _ _ _ hcb, hH5, Heap.get_set_other _ _ _ _ hcx, Heap.get_push_old _ _ _ (by omega), Heap.get_push_old _ _ _ (by omega), hH2, Heap.get_set_other _ _ _ _ hcb, Heap.get_push_old _ _ _ (by omega)]

abbrev dpf : FuncId → Option AFunc := fun f => dp.lookup f

def body103 : ACode := match f103.body with
  | .seq _ (.block _ (.loop b)) => b
  | _ => .skip
def Sh103 (b bx0 r : Nat) (T : List AVal) : Prop := ∃ t2 t3 t4 t6 t7 t8 t9 t10 t11 t12 t13 : AVal, T = [.yl b, .ptr (some (bx0, 0)), t2, t3, t4, .itr r, t6, t7, t8, t9, t10, t11, t12, t13]

section
variable {lim0 lim : Nat}

/-- What comes behind the last round. -/
theorem keys_end {RP : CallerP} {n n' j : Nat} {K : KP} {H : Heap} {b bx0 r : Nat} {mb : Option Nat} {T : List AVal} {c0 : Option (AVal × AVal)} (hT : Sh103 b bx0 r T) (hK : ∀ T' it', K (.exit 0) ⟨T', H, it'⟩) :
    loopP (execP (Ahs.runT ap n') RP lim0 lim n body103) (j + 1) ⟨T, H, some ⟨r, mb, [], c0⟩⟩ K := by
  obtain ⟨t2, t3, t4, t6, t7, t8, t9, t10, t11, t12, t13, rfl⟩ := hT
  unfold loopP
  show execP (Ahs.runT ap n') RP lim0 lim n (.seq (.region _) (.seq (.cond _ .skip (.exit 0)) (.block 1 _))) _ _
  refine execP_seq (execP_reg (opsP_next rfl rfl rfl rfl (fun _ => ?_) fun k v rest hp => ?_))
  · refine opsP_v rfl rfl rfl rfl _ rfl rfl (opsP_nil ?_)
    refine execP_seq (execP_cond false rfl (fun e => by simp at e) fun _ => execP_exit ?_)
    exact hK _ _
  · have := hp.length_eq
    simp at this

theorem keys103 {K : AVal → Heap → Prop} {H : Heap} {b bx bx0 : Nat} {T : List AVal} {m : AVal} {es : List (AVal × AVal)} (hl : lim ≤ H.next) (hb : H.get b = some (.loop ⟨.ready, none, T, [7], asg117, body117⟩)) (hbl : lim ≤ b) (hx : H.cells bx = some [.sl none 0 (.ex 0)]) (hxl : lim ≤ bx)
    (hT : ∃ t0 t1 t3 t4 t5 t6 t7 t8 t9 t10 t11 t12 : AVal, T = [t0, t1, .ptr (some (bx, 0)), t3, t4, t5, t6, t7, t8, t9, t10, t11, t12])
    (hm : aload H none (.ptr (some (bx0, 0))) = some m) (hes : (m = .map none ∧ es = []) ∨ ∃ b clock, m = .map (some b) ∧ H.get b = some (.map es clock) ∧ b < lim)
    (h : (es = [] ∧ K (.tup []) H) ∨ ∃ cs v, es = [(.agg cs, v)] ∧ cs.length = 8 ∧ cs.all (·.one) = true ∧ ∀ H' T', H'.next = H.next + 4 → H'.get b = some (.loop ⟨.ready, none, T', [7], asg117, body117⟩) → H'.cells bx = some [.sl (some (H.next + 3, 0)) 1 (.op 8)] → H'.cells (H.next + 3) = some cs →
      (∀ c, c < H.next → c ≠ b → c ≠ bx → H'.get c = H.get c) → K (.tup []) H') :
    runP ap dpf 17 lim0 lim (.fn 103) [.yl b, .ptr (some (bx0, 0))] H K := by
  refine runP_fun (af := f103) rfl ?_
  refine execP_seq (execP_reg ?_)
  refine opsP_v rfl rfl rfl rfl _ rfl hm ?_
  refine opsP_range rfl rfl rfl rfl es hes fun r mb hmb => opsP_nil ?_
  refine execP_gen (Sh103 b bx0 r) H (some ⟨r, mb, es, none⟩) ⟨_, _, _, _, _, _, _, _, _, _, _, rfl⟩ rfl rfl ?_
  intro T1 hT1
  refine execP_block ?_
  rcases h with ⟨rfl, hk⟩ | ⟨cs, v, rfl, h8, hcs, hk⟩
  · exact keys_end hT1 fun T' it' => ⟨fun id => by simp, _, rfl, hk⟩
  · obtain ⟨t2, t3, t4, t6, t7, t8, t9, t10, t11, t12, t13, rfl⟩ := hT1
    show loopP _ (15 + 1) _ _
    unfold loopP
    show execP (Ahs.runT ap 16) _ lim0 lim 16 (.seq (.region _) (.seq (.cond _ .skip (.exit 0)) (.block 1 _))) _ _
    refine execP_seq (execP_reg (opsP_next rfl rfl rfl rfl (fun e => ?_) fun k v' rest hp => ?_))
    · simp at e
    · have hp' : [(AVal.agg cs, v)].Perm ((k, v') :: rest) := hp
      have hrest : rest = [] := by
        have := hp'.length_eq
        simpa using this
      subst hrest
      have hkv : (k, v') = (AVal.agg cs, v) := by
        have : (k, v') ∈ [(AVal.agg cs, v)] := hp'.mem_iff.2 (by simp)
        simpa using this
      simp only [Prod.mk.injEq] at hkv
      obtain ⟨rfl, rfl⟩ := hkv
      have hbn := Heap.get_lt hb
      have hxn := Heap.cells_lt hx
      refine opsP_v rfl rfl rfl rfl _ rfl rfl (opsP_nil ?_)
      refine execP_seq (execP_cond true rfl (fun _ => ?_) fun e => by simp at e)
      refine execP_skip ?_
      refine execP_block (execP_seq (execP_reg ?_))
      refine opsP_entry rfl rfl rfl rfl rfl ?_
      refine opsP_v rfl rfl rfl rfl _ rfl rfl ?_
      refine opsP_1 rfl rfl rfl rfl rfl ?_
      refine opsP_st rfl rfl rfl rfl (astore_new (cs := z8) (x := .agg cs) hl h8 rfl hcs) (opsP_nil ?_)
      obtain ⟨H', T', hrun, n1, g1, g2, g3, g4⟩ := round117 (n := 15) (lim := lim) (H := H.push (.cells cs)) (by rw [Heap.get_push_old _ _ _ (by omega)]; exact hb) hbl (cells_push_old hx) hxl h8 hcs hT
      rw [Heap.next_push] at n1 g2 g3 g4
      refine execP_seq (execP_reg ?_)
      refine opsP_v rfl rfl rfl rfl _ rfl rfl ?_
      refine opsP_v rfl rfl rfl rfl _ rfl (aload_newA H h8) ?_
      refine opsP_cally rfl rfl rfl rfl rfl hrun ?_
      refine opsP_v rfl rfl rfl rfl _ rfl rfl (opsP_nil ?_)
      refine execP_cond false rfl (fun e => by simp at e) fun _ => execP_skip ?_
      refine keys_end (j := 14) ⟨_, _, _, _, _, _, _, _, _, _, _, rfl⟩ fun T2 it' => ?_
      refine ⟨fun id => by simp, _, rfl, hk H' T' (by omega) g1 g2 g3 fun c hc hcb hcx => ?_⟩
      rw [g4 c (by omega) hcb hcx, Heap.get_push_old _ _ _ (by omega)]
end

theorem mapEs_here {H : Heap} {m : AVal} {es : List (AVal × AVal)} (h : mapEs H m = some es) (H' : Heap) (hk : ∀ b, b < H.next → H'.get b = H.get b) : (m = .map none ∧ es = []) ∨ ∃ b clock, m = .map (some b) ∧ H'.get b = some (.map es clock) ∧ b < H.next := by
  rcases mapEs_some h with h | ⟨b, cl, e, g, hl⟩
  · exact .inl h
  · exact .inr ⟨b, cl, e, by rw [hk b hl, g], hl⟩

theorem aload_here {H H' : Heap} {x v : AVal} (h : aload H none x = some v) (hk : ∀ b, b < H.next → H'.get b = H.get b) : aload H' none x = some v := by
  obtain ⟨b, o, rfl, cs, hc⟩ := aload_inv h
  rw [aload_congr (H := H)]
  · exact h
  · have := Heap.cells_lt hc
    simp only [Heap.cells, hk b this]

/-- What a walk of slices.Collect of maps.Keys comes to. -/
theorem collect {lim0 : Nat} {H : Heap} {bx0 : Nat} {m : AVal} {es : List (AVal × AVal)} {K : AVal → Heap → Prop} (hm : aload H none (.ptr (some (bx0, 0))) = some m) (hes : mapEs H m = some es)
    (h : (es = [] ∧ ∀ H', H'.next = H.next + 2 → (∀ b, b < H.next → H'.get b = H.get b) → K (.sl none 0 (.ex 0)) H') ∨
      ∃ cs v, es = [(.agg cs, v)] ∧ cs.length = 8 ∧ cs.all (·.one) = true ∧ ∀ H', H'.next = H.next + 6 → (∀ b, b < H.next → H'.get b = H.get b) → H'.cells (H.next + 5) = some cs → K (.sl (some (H.next + 5, 0)) 1 (.op 8)) H') :
    runP ap dpf 19 lim0 H.next (.fn 101) [.fn 103 [] [.ptr (some (bx0, 0))]] H K := by
  refine runP_fun (af := f101) rfl ?_
  refine execP_seq (execP_reg (opsP_v rfl rfl rfl rfl _ rfl rfl (opsP_nil ?_)))
  refine execP_seq (execP_reg (opsP_v rfl rfl rfl rfl _ rfl rfl ?_))
  refine opsP_call rfl rfl rfl ?_
  refine runP_fun (af := f117) rfl ?_
  refine execP_seq (execP_reg ?_)
  refine opsP_1 rfl rfl rfl rfl (step_box (cs := [.sl none 0 (.ex 0)]) rfl rfl) ?_
  refine opsP_v rfl rfl rfl rfl _ rfl rfl (opsP_nil ?_)
  refine execP_seq (execP_seq (execP_reg (opsP_v rfl rfl rfl rfl _ rfl rfl (opsP_nil ?_))))
  refine execP_gen (fun T => T = [.sl none 0 (.ex 0), .fn 103 [] [.ptr (some (bx0, 0))], .ptr (some (H.next, 0)), und, .sl none 0 (.ex 0), und, .fn 103 [] [.ptr (some (bx0, 0))], und, und, und, und, und, und]) (H.push (.cells [.sl none 0 (.ex 0)])) none rfl rfl rfl ?_
  rintro T rfl
  have n1 : (H.push (.cells [.sl none 0 (.ex 0)])).next = H.next + 1 := Heap.next_push _ _
  refine execP_block (execP_ranges rfl rfl rfl ?_)
  have old : ∀ x, ∀ b, b < H.next → ((H.push (.cells [.sl none 0 (.ex 0)])).push x).get b = H.get b := fun x b hb => by
    rw [Heap.get_push_old _ _ _ (by omega), Heap.get_push_old _ _ _ (by omega)]
  refine keys103 (bx := H.next) (by rw [Heap.next_push, n1]; omega) (Heap.get_push_new _ _) (by show H.next ≤ (H.push _).next; omega) (cells_push_old (cells_push_new H _)) (Nat.le_refl _) ⟨_, _, _, _, _, _, _, _, _, _, _, _, rfl⟩ (aload_here hm (old _)) (mapEs_here hes _ (old _)) ?_
  rcases h with ⟨he, hk⟩ | ⟨cs, v, he, h8, hcs, hk⟩
  · refine .inl ⟨he, ?_⟩
    refine rng_ready (Heap.get_push_new _ _) ?_
    refine execP_seq (execP_reg ?_)
    refine opsP_v (v := .sl none 0 (.ex 0)) rfl rfl rfl rfl _ rfl ?_ ?_
    · show aload (Heap.set _ _ _) none (.ptr (some (H.next, 0))) = _
      rw [aload_one (cells_set_other (cells_push_old (cells_push_new H _)) (by show H.next ≠ (H.push (.cells [.sl none 0 (.ex 0)])).next; omega))]; rfl
    refine opsP_v rfl rfl rfl rfl _ rfl rfl (opsP_nil ?_)
    refine ⟨fun id => by simp, _, rfl, ?_⟩
    refine opsP_v rfl rfl rfl rfl _ rfl rfl (opsP_nil ?_)
    refine ⟨fun id => by simp, _, rfl, hk _ ?_ fun b hb => ?_⟩
    · exact rfl
    · exact (Heap.get_set_other _ _ _ _ (show b ≠ (H.push (.cells [.sl none 0 (.ex 0)])).next by omega)).trans (old _ b hb)
  · refine .inr ⟨cs, v, he, h8, hcs, fun H' T' nn g1 g2 g3 g4 => ?_⟩
    rw [Heap.next_push, n1] at nn g2 g3 g4
    rw [show H.next + 1 + 1 + 3 = H.next + 5 by omega] at g2 g3
    refine rng_ready g1 ?_
    refine execP_seq (execP_reg ?_)
    refine opsP_v (v := .sl (some (H.next + 5, 0)) 1 (.op 8)) rfl rfl rfl rfl _ rfl ?_ ?_
    · show aload (Heap.set _ _ _) none (.ptr (some (H.next, 0))) = _
      rw [aload_one (cells_set_other g2 (by show H.next ≠ (H.push (.cells [.sl none 0 (.ex 0)])).next; omega))]; rfl
    refine opsP_v rfl rfl rfl rfl _ rfl rfl (opsP_nil ?_)
    refine ⟨fun id => by simp, _, rfl, ?_⟩
    refine opsP_v rfl rfl rfl rfl _ rfl rfl (opsP_nil ?_)
    refine ⟨fun id => by simp, _, rfl, hk _ ?_ (fun b hb => ?_) ?_⟩
    · show H'.next = _
      omega
    · exact (Heap.get_set_other _ _ _ _ (show b ≠ (H.push (.cells [.sl none 0 (.ex 0)])).next by omega)).trans ((g4 b (by omega) (by omega) (by omega)).trans (old _ b hb))
    · exact cells_set_other g3 (by show H.next + 5 ≠ (H.push (.cells [.sl none 0 (.ex 0)])).next; omega)

set_option maxHeartbeats 4000000 in
theorem keys_ok : PrimOK Try.prog 67 g67 := by
  refine PrimOK.drawn Try.checked.mixed ap_ok dpOK (f := 67) (af := f67) rfl ?_ ?_
  · intro lim args H v H' hl h
    unfold g67 at h
    split at h <;> try (simp at h; done)
    split at h <;> try (simp at h; done)
    split at h <;> try (simp at h; done)
    · simp only [Option.some.injEq, Prod.mk.injEq] at h
      obtain ⟨_, rfl⟩ := h
      exact ⟨by rw [pushDead_next]; omega, fun b hb => pushDead_old _ (by omega)⟩
    · split at h <;> try (simp at h; done)
      split at h <;> try (simp at h; done)
      simp only [Option.some.injEq, Prod.mk.injEq] at h
      obtain ⟨_, rfl⟩ := h
      refine ⟨by rw [Heap.next_push, pushDead_next]; omega, fun b hb => ?_⟩
      rw [Heap.get_push_old _ _ _ (by rw [pushDead_next]; omega), pushDead_old _ (by omega)]
  · intro lim args H v H' hl h
    unfold g67 at h
    split at h <;> try (simp at h; done)
    rename_i bx0
    split at h <;> try (simp at h; done)
    rename_i m hm
    refine ⟨20, runP_fun (af := f67) rfl ?_⟩
    refine execP_seq (execP_reg (opsP_v rfl rfl rfl rfl _ rfl rfl (opsP_nil ?_)))
    refine execP_seq (execP_reg (opsP_v rfl rfl rfl rfl _ rfl rfl ?_))
    refine opsP_call rfl rfl rfl ?_
    split at h <;> try (simp at h; done)
    · rename_i hes
      simp only [Option.some.injEq, Prod.mk.injEq] at h
      obtain ⟨rfl, rfl⟩ := h
      refine collect hm hes (.inl ⟨rfl, fun H1 hn hg => ?_⟩)
      refine opsP_v rfl rfl rfl rfl _ rfl rfl (opsP_nil ?_)
      refine execP_seq (execP_reg (opsP_v rfl rfl rfl rfl _ rfl rfl ?_))
      refine opsP_v rfl rfl rfl rfl _ rfl rfl ?_
      refine opsP_calld rfl rfl rfl rfl (sort0 _ _) (opsP_nil ?_)
      refine execP_seq (execP_reg (opsP_v rfl rfl rfl rfl _ rfl rfl ?_))
      refine opsP_v rfl rfl rfl rfl _ rfl rfl (opsP_nil ?_)
      exact ⟨fun id => by simp, _, rfl, rfl, forget_dead hn hg⟩
    · rename_i k v' hes
      split at h <;> try (simp at h; done)
      rename_i cs
      split at h <;> try (simp at h; done)
      rename_i hok
      simp only [Option.some.injEq, Prod.mk.injEq] at h
      obtain ⟨rfl, rfl⟩ := h
      obtain ⟨cs', a, b, e1, h8, hcs, _, _⟩ := ent_inv hok
      simp only [AVal.agg.injEq] at e1
      subst e1
      refine collect hm hes (.inr ⟨cs, v', rfl, h8, hcs, fun H1 hn hg hc => ?_⟩)
      refine opsP_v rfl rfl rfl rfl _ rfl rfl (opsP_nil ?_)
      refine execP_seq (execP_reg (opsP_v rfl rfl rfl rfl _ rfl rfl ?_))
      refine opsP_v rfl rfl rfl rfl _ rfl rfl ?_
      refine opsP_calld rfl rfl rfl rfl (sort1 _ _ _) (opsP_nil ?_)
      refine execP_seq (execP_reg (opsP_v rfl rfl rfl rfl _ rfl rfl ?_))
      refine opsP_v rfl rfl rfl rfl _ rfl rfl (opsP_nil ?_)
      refine ⟨fun id => by simp, _, rfl, rfl, ?_⟩
      refine ⟨by rw [Heap.next_push, pushDead_next]; exact hn, fun b => ?_⟩
      by_cases e : b = H.next + 5
      · have e5 : b = (pushDead 5 H).next := by rw [pushDead_next]; exact e
        refine .inl ?_
        rw [e5, Heap.get_push_new, ← e5, e]
        exact (Heap.cells_eq.1 hc).symm
      · have hne : b ≠ (pushDead 5 H).next := by rw [pushDead_next]; exact e
        rw [Heap.get_push_old _ _ _ hne]
        rcases Nat.lt_or_ge b H.next with g | g
        · exact .inl (by rw [pushDead_old _ g]; exact (hg b g).symm)
        · rcases Nat.lt_or_ge b (H.next + 5) with g2 | g2
          · exact .inr ⟨g, pushDead_new _ g g2⟩
          · exact .inl (by rw [Heap.get_ge _ _ (by rw [pushDead_next]; exact g2)]; exact (Heap.get_ge H1 b (by show H1.next ≤ b; omega)).symm)

end Go.Proofs.Ytjflpnahjooffaa.cat
