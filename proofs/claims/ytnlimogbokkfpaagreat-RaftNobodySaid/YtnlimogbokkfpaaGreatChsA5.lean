/- The operations that look at values alone, and those that look at a block, in the model. -/
import Derived.Test.YtnlimogbokkfpaaGreatChsA4
set_option linter.unusedSimpArgs false
set_option linter.unusedVariables false
namespace Go.Ahs
section
variable {P : Program}
theorem run_sizeOf' {t : TypeId} {n : Nat} (h : sizeT P t = some n) (w : World) : (sizeOf t).run P w = .ok n w := by
  unfold sizeT at h
  cases hi : P.info? t with
  | none => rw [hi] at h; simp at h
  | some i => rw [hi] at h; simp at h; simp [sizeOf, typeInfo, hi, h]
theorem run_typeInfo' {t : TypeId} {i : TypeInfo} (h : P.info? t = some i) (w : World) : (typeInfo t).run P w = .ok i w := by simp [typeInfo, h]
theorem run_und {t : TypeId} {d : TypeDesc} (h : P.underlying t = some d) (w : World) : (underlying t).run P w = .ok d w := by simp [underlying, h]
theorem run_isAgg' {t : TypeId} {d : TypeDesc} (h : P.underlying t = some d) (w : World) :
    (isAgg t).run P w = .ok (match d with | .struct _ | .array _ _ => true | _ => false) w := by
  simp only [isAgg, Sem.run_bind, run_und h, Result.andThen_ok]
  cases d <;> rfl
theorem aggT_inv {t : TypeId} {g : Option Nat} (h : aggT P t = some g) :
    ∃ d, P.underlying t = some d ∧ (∀ w, (isAgg t).run P w = .ok g.isSome w) ∧ (∀ n, g = some n → ∀ w, (sizeOf t).run P w = .ok n w) := by
  unfold aggT at h
  split at h
  · rename_i fs hu
    simp at h
    obtain ⟨n, h1, h2⟩ := h
    subst h2
    exact ⟨_, hu, fun w => by rw [run_isAgg' hu]; rfl, fun m hm w => by simp at hm; subst hm; exact run_sizeOf' h1 w⟩
  · rename_i n0 e hu
    simp at h
    obtain ⟨n, h1, h2⟩ := h
    subst h2
    exact ⟨_, hu, fun w => by rw [run_isAgg' hu]; rfl, fun m hm w => by simp at hm; subst hm; exact run_sizeOf' h1 w⟩
  · rename_i d hn1 hn2 hu
    simp at h
    subst h
    refine ⟨d, hu, fun w => ?_, fun m hm => by simp at hm⟩
    rw [run_isAgg' hu]
    cases d <;> first | rfl | exact absurd rfl (hn1 _) | exact absurd rfl (hn2 _ _) | exact absurd hu (hn2 _ _) | exact absurd hu (hn1 _)
  · simp at h
theorem cval1_rel (ρ : Mp) {v : Value} {x : AVal} (h : cval1 v = some x) : VRel ρ x v := by
  unfold cval1 at h
  split at h <;> simp at h <;> subst h
  · exact .int _ _
  · exact .bool _
  · exact .str rfl
  · exact .ptrN
  · exact .slN
  · exact .mapN
  · exact .nilFn
  · exact .nilIface
theorem cval1_one {v : Value} {x : AVal} (h : cval1 v = some x) : x.one = true := by
  unfold cval1 at h
  split at h <;> simp at h <;> subst h <;> rfl
theorem allSome_length {α β : Type} {f : α → Option β} : ∀ {l : List α} {r : List β}, allSome f l = some r → r.length = l.length
  | [], r, h => by simp [allSome] at h; subst h; rfl
  | x :: xs, r, h => by
    unfold allSome at h
    split at h
    · rename_i y ys h1 h2
      simp at h; subst h
      simp [allSome_length h2]
    · simp at h
theorem allSome_get {α β : Type} {f : α → Option β} : ∀ {l : List α} {r : List β}, allSome f l = some r → ∀ (i : Nat) (x : α), l[i]? = some x → ∃ y, r[i]? = some y ∧ f x = some y
  | [], r, h, i, x, hx => by simp at hx
  | x :: xs, r, h, i, z, hz => by
    unfold allSome at h
    split at h
    · rename_i y ys h1 h2
      simp at h; subst h
      cases i with
      | zero => simp at hz; subst hz; exact ⟨y, rfl, h1⟩
      | succ i => simp at hz; simpa using allSome_get h2 i z hz
    · simp at h
theorem allSome_rel (ρ : Mp) {l : List Value} {r : List AVal} (h : allSome cval1 l = some r) : LRel ρ r l := by
  refine ⟨allSome_length h, fun i v v' e e' => ?_⟩
  obtain ⟨y, h1, h2⟩ := allSome_get h i v' e'
  rw [e] at h1; simp at h1; subst h1
  exact cval1_rel ρ h2
theorem cval_rel (ρ : Mp) {v : Value} {x : AVal} (h : cval v = some x) : VRel ρ x v := by
  unfold cval at h
  split at h
  · simp at h
    obtain ⟨l, h1, h2⟩ := h
    subst h2
    exact VRel.agg_of (allSome_rel ρ h1)
  · exact cval1_rel ρ h
theorem zeroT_inv (ρ : Mp) {t : TypeId} {z : List AVal} (h : zeroT P t = some z) :
    ∃ i v, P.info? t = some i ∧ i.zero = some v ∧ z.length = i.size ∧ v.cells.size = i.size ∧ LRel ρ z v.cells.toList ∧ (∀ x ∈ z, x.one = true) := by
  unfold zeroT at h
  split at h
  · rename_i i hi
    split at h
    · rename_i v hv
      split at h
      · rename_i l hl
        split at h
        · rename_i hs
          simp at h; subst h
          refine ⟨i, v, hi, hv, hs, by have := allSome_length hl; simp at this; omega, allSome_rel ρ hl, fun x hx => ?_⟩
          obtain ⟨k, hk, hx⟩ := List.getElem_of_mem hx
          have hk' : k < v.cells.toList.length := by rw [← allSome_length hl]; exact hk
          obtain ⟨y, h1, h2⟩ := allSome_get hl k v.cells.toList[k] (List.getElem?_eq_getElem hk')
          rw [List.getElem?_eq_getElem hk] at h1; simp at h1
          rw [← hx, h1]; exact cval1_one h2
        · simp at h
      · simp at h
    · simp at h
  · simp at h
theorem run_zeroValue' {t : TypeId} {i : TypeInfo} {v : Value} (hi : P.info? t = some i) (hv : i.zero = some v) (w : World) : (zeroValue t).run P w = .ok v w := by
  simp [zeroValue, typeInfo, hi, hv]
def Sim1 (P : Program) (n0 lim : Nat) (ρ : Mp) (H : Heap) (w : World) (s : Sem Value) (v : AVal) (H' : Heap) : Prop :=
  ∃ v' w' ρ', s.run P w = .ok v' w' ∧ Post P n0 lim ρ H w ρ' H' w' ∧ VRel ρ' v v'
variable {n0 lim : Nat} {ρ : Mp} {H H' : Heap} {w : World}
theorem Sim1.same (hr : Rel P n0 ρ H w) {s : Sem Value} {v : AVal} {v' : Value} (h : s.run P w = .ok v' w) (hv : VRel ρ v v') : Sim1 P n0 lim ρ H w s v H :=
  ⟨v', w, ρ, h, .refl hr, hv⟩
theorem toV_rel {v : AVal} {v' u : Value} (h : VRel ρ v v') (hu : toV v = some u) : v' = u := by
  cases h <;> simp [toV] at hu <;> exact hu
theorem ofV_rel (ρ : Mp) {v : AVal} {u : Value} (h : ofV u = some v) : VRel ρ v u := by
  unfold ofV at h
  split at h <;> simp at h <;> subst h
  · exact .int _ _
  · exact .bool _
theorem pureV_run {s : Sem Value} {v : AVal} (h : pureV s = some v) (ρ : Mp) (w : World) : ∃ u, s.run P w = .ok u w ∧ VRel ρ v u := by
  unfold pureV at h
  split at h
  · exact ⟨_, rfl, ofV_rel ρ h⟩
  · simp at h
theorem binOp_int (op : BinOp) (t u : TypeId) (k k' : IntKind) (a b : Int) : binOp op t (.int k a) (.int k' b) = binOp op u (.int k a) (.int k' b) := by
  cases op <;> rfl
theorem bytes_eq {l : List UInt8} {s : ByteArray} (h : s.data.toList = l) : s = ⟨l.toArray⟩ := by
  subst h; cases s; simp
theorem toList_data (s : ByteArray) : s.toList = s.data.toList := by
  have go : ∀ (n i : Nat) (r : List UInt8), n = s.size - i → ByteArray.toList.loop s i r = r.reverse ++ s.data.toList.drop i := by
    intro n
    induction n with
    | zero =>
      intro i r h
      unfold ByteArray.toList.loop
      have hge : s.data.toList.length ≤ i := by simp [← ByteArray.size_data]; simp at h ⊢; omega
      rw [if_neg (by omega), List.drop_eq_nil_of_le hge]; simp
    | succ n ih =>
      intro i r h
      unfold ByteArray.toList.loop
      rw [if_pos (by omega), ih (i + 1) _ (by omega)]
      have hlt : i < s.data.toList.length := by simp; have : s.data.size = s.size := rfl; omega
      have hlt' : i < s.data.size := by simpa using hlt
      have hg : s.get! i = s.data.toList[i] := by
        show s.data[i]! = _
        rw [getElem!_pos s.data i hlt']; simp
      rw [List.drop_eq_getElem_cons hlt, hg, List.reverse_cons, List.append_assoc]; rfl
  unfold ByteArray.toList
  rw [go (s.size - 0) 0 [] rfl]
  rfl
theorem size_list {l : List UInt8} {s : ByteArray} (h : s.data.toList = l) : s.size = l.length := by
  subst h; show s.data.size = _; simp
theorem abin_sim (hr : Rel P n0 ρ H w) {op : BinOp} {t : TypeId} {x y v : AVal} {x' y' : Value} (h : abin op x y = some v) (hx : VRel ρ x x') (hy : VRel ρ y y') :
    Sim1 P n0 lim ρ H w (binOp op t x' y') v H := by
  unfold abin at h
  split at h
  · cases hx; cases hy
    rw [binOp_int op 0 t] at h
    obtain ⟨u, h1, h2⟩ := pureV_run (P := P) h ρ w
    exact .same hr h1 h2
  · rename_i a b
    cases hx with | str ha => cases hy with | str hb =>
    rename_i s1 s2
    unfold abinStr at h
    have hs1 := size_list ha
    have hs2 := size_list hb
    have e1 := (toList_data s1).trans ha
    have e2 := (toList_data s2).trans hb
    have happ : (s1 ++ s2).data.toList = a ++ b := by rw [ByteArray.data_append]; simp [ha, hb]
    cases op <;> simp only at h <;> first | (simp at h; done) | skip
    · split at h
      · simp at h
      · rename_i hn
        simp at h; subst h
        refine .same hr (v' := .string (s1 ++ s2)) ?_ (.str happ)
        simp only [binOp, Op.stringOp]
        rw [hs1, hs2, if_neg hn]; rfl
    all_goals
      injection h with h; subst h
      refine .same hr (v' := .bool _) (by simp only [binOp, Op.stringOp, e1, e2]; rfl) (.bool _)
  · simp at h
theorem eqGuard_int {op : BinOp} {t : TypeId} {x y : Operand} {a b : Value} (h : ∀ cs, a ≠ .agg cs) (hn : a ≠ .nilIface ∨ b ≠ .nilIface) (w : World) : (eqGuard op t x y a b).run P w = .ok () w := by
  unfold eqGuard
  cases op <;> first
    | rfl
    | (simp only [Bool.not_true, Bool.false_eq_true, if_false]
       split
       · rcases hn with hn | hn <;> exact absurd rfl hn
       · exact absurd rfl (h _)
       · rfl)
end
end Go.Ahs
