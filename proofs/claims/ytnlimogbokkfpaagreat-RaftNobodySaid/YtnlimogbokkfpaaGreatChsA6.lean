/- '==' of what holds no address. -/
import Derived.Test.YtnlimogbokkfpaaGreatChsA5
import Derived.ChangeKeysEq
set_option linter.unusedSimpArgs false
set_option linter.unusedVariables false
namespace Go.Ahs
def packT (P : Program) (t : TypeId) (as : List Value) : Value :=
 match P.underlying t with
 | some (.struct _) | some (.array _ _) => .agg as.toArray
 | _ => as.headD undef
section
variable {P : Program}
theorem run_part' {t : TypeId} {d : TypeDesc} {n off : Nat} {cs : Array Value} (hu : P.underlying t = some d) (hn : sizeT P t = some n) (hle : off + n ≤ cs.size)
  (h1 : (∀ fs, d ≠ .struct fs) → (∀ k e, d ≠ .array k e) → n = 1) (w : World) : (part t cs off).run P w = .ok (packT P t ((cs.toList.drop off).take n)) w := by
 unfold part packT
 simp only [Sem.run_bind, run_isAgg' hu, Result.andThen_ok, hu]
 have hext : cs.extract off (off + n) = ((cs.toList.drop off).take n).toArray := by
  apply Array.ext'
  simp [Array.toList_extract, List.extract_eq_take_drop]
 cases d
 case struct fs => simp [run_sizeOf' hn, hext]
 case array k e => simp [run_sizeOf' hn, hext]
 all_goals
  have hn1 : n = 1 := h1 (fun _ => by simp) (fun _ _ => by simp)
  subst hn1
  have hlt : off < cs.size := by omega
  simp only [Bool.false_eq_true, if_false, Array.getElem?_eq_getElem hlt]
  have hlt' : off < cs.toList.length := by simpa using hlt
  rw [List.drop_eq_getElem_cons hlt']
  simp
theorem leafs_size : ∀ {d : Nat} {t : TypeId} {ls : List Leaf}, leafs P d t = some ls → sizeT P t = some ls.length
 | 0, t, ls, h => by simp [leafs] at h
 | d + 1, t, ls, h => by
  unfold leafs at h
  split at h
  ·split at h <;> simp at h; subst h; assumption
  ·split at h <;> simp at h; subst h; assumption
  ·split at h <;> simp at h; subst h; assumption
  ·split at h
   ·split at h <;> simp at h
    rename_i l _ hs
    rw [hs.2.1, ← h]; simp
   ·simp at h
  ·split at h
   ·simp at h
   ·split at h
    ·split at h <;> simp at h; subst h; assumption
    ·simp at h
  ·simp at h
theorem cellsEq_length : ∀ {ls : List Leaf} {xs ys : List AVal} {r : Bool}, cellsEq ls xs ys = some r → xs.length = ls.length ∧ ys.length = ls.length
 | [], [], [], r, h => ⟨rfl, rfl⟩
 | l :: ls, x :: xs, y :: ys, r, h => by
  unfold cellsEq at h
  split at h
  ·rename_i a b h1 h2
   obtain ⟨e1, e2⟩ := cellsEq_length h2
   simp [e1, e2]
  ·simp at h
 | [], [], _ :: _, r, h => by simp [cellsEq] at h
 | [], _ :: _, _, r, h => by simp [cellsEq] at h
 | _ :: _, [], _, r, h => by simp [cellsEq] at h
 | _ :: _, _ :: _, [], r, h => by simp [cellsEq] at h
theorem cellsEq_append : ∀ {l1 l2 : List Leaf} {xs ys : List AVal} {r : Bool}, cellsEq (l1 ++ l2) xs ys = some r →
  ∃ r1 r2, cellsEq l1 (xs.take l1.length) (ys.take l1.length) = some r1 ∧ cellsEq l2 (xs.drop l1.length) (ys.drop l1.length) = some r2 ∧ r = (r1 && r2)
 | [], l2, xs, ys, r, h => ⟨true, r, by simp [cellsEq], by simpa using h, by simp⟩
 | l :: l1, l2, xs, ys, r, h => by
  cases xs with
  | nil => simp [cellsEq] at h
  | cons x xs =>
   cases ys with
   | nil => simp [cellsEq] at h
   | cons y ys =>
    simp only [List.cons_append, cellsEq] at h
    split at h
    ·rename_i a b h1 h2
     obtain ⟨r1, r2, e1, e2, e3⟩ := cellsEq_append h2
     simp at h
     refine ⟨a && r1, r2, ?_, by simpa using e2, by rw [← h, e3, Bool.and_assoc]⟩
     simp [cellsEq, h1, e1]
    ·simp at h
def EqLeafs (P : Program) (dd : Nat) (t : TypeId) (ls : List Leaf) : Prop :=
 ∀ (xs ys : List AVal) (r : Bool), cellsEq ls xs ys = some r → ∀ (ρ : Mp) (as bs : List Value), LRel ρ xs as → LRel ρ ys bs → ∀ w, (Op.equalIn dd t (packT P t as) (packT P t bs)).run P w = .ok r w
theorem leafs_scalar {d : Nat} {t : TypeId} {ls : List Leaf} (h : leafs P d t = some ls) : ∃ dsc, P.underlying t = some dsc ∧ ((∀ fs, dsc ≠ .struct fs) → (∀ k e, dsc ≠ .array k e) → ls.length = 1) := by
 cases d with
 | zero => simp [leafs] at h
 | succ d =>
  unfold leafs at h
  split at h
  ·split at h <;> simp at h; subst h; exact ⟨_, by assumption, fun _ _ => rfl⟩
  ·split at h <;> simp at h; subst h; exact ⟨_, by assumption, fun _ _ => rfl⟩
  ·split at h <;> simp at h; subst h; exact ⟨_, by assumption, fun _ _ => rfl⟩
  ·exact ⟨_, by assumption, fun _ h2 => absurd rfl (h2 _ _)⟩
  ·exact ⟨_, by assumption, fun h1 _ => absurd rfl (h1 _)⟩
  ·simp at h
theorem eqFields_leafs {d dd : Nat} (ih : ∀ t ls, leafs P d t = some ls → EqLeafs P dd t ls) {as bs : Array Value} {ρ : Mp} : ∀ (fs : List Field) (off : Nat) (ls : List Leaf), leafsFs P (leafs P d) off fs = some ls →
  ∀ (xs ys : List AVal) (r : Bool), cellsEq ls xs ys = some r → LRel ρ xs (as.toList.drop off) → LRel ρ ys (bs.toList.drop off) → ∀ w, (Op.eqFields dd as bs fs).run P w = .ok r w
 | [], off, ls, h, xs, ys, r, hr, ha, hb, w => by
  simp [leafsFs] at h; subst h
  obtain ⟨e1, e2⟩ := cellsEq_length hr
  have e1 : xs = [] := List.eq_nil_of_length_eq_zero e1
  have e2 : ys = [] := List.eq_nil_of_length_eq_zero e2
  subst e1 e2
  simp [cellsEq] at hr; subst hr
  simp [Op.eqFields]
 | f :: fs, off, ls, h, xs, ys, r, hr, ha, hb, w => by
  unfold leafsFs at h
  split at h
  ·rename_i l hl
   split at h
   ·rename_i hc
    obtain ⟨rfl, hsz, hnm, hpos⟩ := hc
    simp at h
    obtain ⟨ls', h1, h2⟩ := h
    subst h2
    obtain ⟨r1, r2, q1, q2, q3⟩ := cellsEq_append hr
    obtain ⟨e1, e2⟩ := cellsEq_length hr
    obtain ⟨dsc, hu, hsc⟩ := leafs_scalar hl
    have la := ha.1
    have lb := hb.1
    simp at la lb e1 e2
    have hpa := run_part' (off := f.offset) (cs := as) hu hsz (by omega) hsc w
    have hpb := run_part' (off := f.offset) (cs := bs) hu hsz (by omega) hsc w
    have he := ih f.type l hl _ _ _ q1 ρ _ _ (ha.take l.length) (hb.take l.length) w
    simp only [Op.eqFields, hnm, ne_eq, not_false_eq_true, if_true, Sem.run_bind, hpa, hpb, Result.andThen_ok, he]
    subst q3
    cases r1
    ·simp
    ·have hrec := eqFields_leafs ih fs (f.offset + l.length) ls' h1 _ _ _ q2 (by have := ha.drop l.length; rwa [List.drop_drop] at this) (by have := hb.drop l.length; rwa [List.drop_drop] at this) w
     simpa using hrec
   ·simp at h
  ·simp at h
theorem eqItems_leafs {dd : Nat} {e : TypeId} {l : List Leaf} (hE : EqLeafs P dd e l) (hsz : sizeT P e = some l.length) (hpos : 0 < l.length) {dsc : TypeDesc} (hu : P.underlying e = some dsc)
  (hsc : (∀ fs, dsc ≠ .struct fs) → (∀ k e, dsc ≠ .array k e) → l.length = 1) {as bs : Array Value} {ρ : Mp} : ∀ (n i : Nat) (xs ys : List AVal) (r : Bool),
  cellsEq (List.replicate n l).flatten xs ys = some r → LRel ρ xs (as.toList.drop (i * l.length)) → LRel ρ ys (bs.toList.drop (i * l.length)) → ∀ w, (Op.eqItems dd e l.length as bs (List.range' i n)).run P w = .ok r w
 | 0, i, xs, ys, r, hr, ha, hb, w => by
  obtain ⟨e1, e2⟩ := cellsEq_length hr
  have e1 : xs = [] := List.eq_nil_of_length_eq_zero e1
  have e2 : ys = [] := List.eq_nil_of_length_eq_zero e2
  subst e1 e2
  simp [cellsEq] at hr; subst hr
  simp [Op.eqItems]
 | n + 1, i, xs, ys, r, hr, ha, hb, w => by
  simp only [List.replicate_succ, List.flatten_cons] at hr
  have hmul : (n + 1) * l.length = n * l.length + l.length := Nat.succ_mul _ _
  obtain ⟨r1, r2, q1, q2, q3⟩ := cellsEq_append hr
  obtain ⟨e1, e2⟩ := cellsEq_length hr
  have la := ha.1
  have lb := hb.1
  simp at la lb e1 e2
  have hpa := run_part' (off := i * l.length) (cs := as) hu hsz (by omega) hsc w
  have hpb := run_part' (off := i * l.length) (cs := bs) hu hsz (by omega) hsc w
  have he := hE _ _ _ q1 ρ _ _ (ha.take l.length) (hb.take l.length) w
  simp only [List.range'_succ, Op.eqItems, Sem.run_bind, hpa, hpb, Result.andThen_ok, he]
  subst q3
  cases r1
  ·simp
  ·have hrec := eqItems_leafs hE hsz hpos hu hsc n (i + 1) _ _ _ q2 (by have := ha.drop l.length; rwa [List.drop_drop, ← Nat.succ_mul] at this) (by have := hb.drop l.length; rwa [List.drop_drop, ← Nat.succ_mul] at this) w
   simpa using hrec
theorem leafEq_inv {l : Leaf} {x y : AVal} {r : Bool} (h : leafEq l x y = some r) :
  (∃ k a b, l = .int k ∧ x = .int k a ∧ y = .int k b ∧ r = (a == b)) ∨ (∃ a b, l = .bool ∧ x = .bool a ∧ y = .bool b ∧ r = (a == b)) ∨ (∃ a b, l = .str ∧ x = .str a ∧ y = .str b ∧ r = (a == b)) := by
 unfold leafEq at h
 split at h
 ·split at h
  ·rename_i hk; obtain ⟨rfl, rfl⟩ := hk; simp at h; exact .inl ⟨_, _, _, rfl, rfl, rfl, h.symm⟩
  ·simp at h
 ·simp at h; exact .inr (.inl ⟨_, _, rfl, rfl, rfl, h.symm⟩)
 ·simp at h; exact .inr (.inr ⟨_, _, rfl, rfl, rfl, h.symm⟩)
 ·simp at h
theorem cellsEq_one {l : Leaf} {xs ys : List AVal} {r : Bool} (h : cellsEq [l] xs ys = some r) : ∃ x y, xs = [x] ∧ ys = [y] ∧ leafEq l x y = some r := by
 obtain ⟨e1, e2⟩ := cellsEq_length h
 match xs, ys with
 | [x], [y] =>
  simp only [cellsEq] at h
  split at h
  ·rename_i a b h1 h2
   simp at h2 h; subst h2
   exact ⟨x, y, rfl, rfl, by rw [h1]; simpa using h⟩
  ·simp at h
theorem LRel.one_inv {ρ : Mp} {x : AVal} {as : List Value} (h : LRel ρ [x] as) : ∃ a, as = [a] ∧ VRel ρ x a := by
 match as with
 | [a] => exact ⟨a, rfl, h.head⟩
 | [] => have := h.1; simp at this
 | _ :: _ :: _ => have := h.1; simp at this
theorem equal_leafs : ∀ (d : Nat) (t : TypeId) (ls : List Leaf), leafs P d t = some ls → ∀ dd, d ≤ dd → EqLeafs P dd t ls
 | 0, t, ls, h => by simp [leafs] at h
 | d + 1, t, ls, h => by
  intro dd hdd xs ys r hr ρ as bs ha hb w
  obtain ⟨dd, rfl⟩ : ∃ m, dd = m + 1 := ⟨dd - 1, by omega⟩
  unfold leafs at h
  split at h
  ·rename_i k hu
   split at h <;> simp at h
   subst h
   obtain ⟨x, y, rfl, rfl, hl⟩ := cellsEq_one hr
   obtain ⟨a, rfl, va⟩ := ha.one_inv
   obtain ⟨b, rfl, vb⟩ := hb.one_inv
   rcases leafEq_inv hl with ⟨k', a', b', e1, rfl, rfl, rfl⟩ | ⟨_, _, e1, _⟩ | ⟨_, _, e1, _⟩ <;> simp at e1
   subst e1
   cases va; cases vb
   simp [packT, hu, Op.equalIn, run_und hu]
  ·rename_i hu
   split at h <;> simp at h
   subst h
   obtain ⟨x, y, rfl, rfl, hl⟩ := cellsEq_one hr
   obtain ⟨a, rfl, va⟩ := ha.one_inv
   obtain ⟨b, rfl, vb⟩ := hb.one_inv
   rcases leafEq_inv hl with ⟨k', a', b', e1, _⟩ | ⟨_, _, e1, rfl, rfl, rfl⟩ | ⟨_, _, e1, _⟩ <;> simp at e1
   cases va; cases vb
   simp [packT, hu, Op.equalIn, run_und hu]
  ·rename_i hu
   split at h <;> simp at h
   subst h
   obtain ⟨x, y, rfl, rfl, hl⟩ := cellsEq_one hr
   obtain ⟨a, rfl, va⟩ := ha.one_inv
   obtain ⟨b, rfl, vb⟩ := hb.one_inv
   rcases leafEq_inv hl with ⟨k', a', b', e1, _⟩ | ⟨_, _, e1, _⟩ | ⟨_, _, e1, rfl, rfl, rfl⟩ <;> simp at e1
   cases va with | str h1 => cases vb with | str h2 =>
   rename_i s1 s2
   have hb' := beq_toListBytes s1 s2
   rw [toList_data, toList_data, h1, h2] at hb'
   simp only [packT, hu, List.headD_cons, Op.equalIn, Sem.run_bind, run_und hu, Result.andThen_ok, Sem.run_pure, hb']
  ·rename_i n e hu
   split at h
   ·rename_i l hl
    split at h <;> simp at h
    rename_i hs
    subst h
    obtain ⟨dsc, hue, hsc⟩ := leafs_scalar hl
    have hE := equal_leafs d e l hl dd (by omega)
    obtain ⟨i, hi⟩ : ∃ i, P.info? e = some i := by
     cases hi : P.info? e with
     | none => simp [sizeT, hi] at hs
     | some i => exact ⟨i, rfl⟩
    have hc : P.cellsOf e = l.length := by
     have := hs.1
     simp [sizeT, hi] at this
     simp [Program.cellsOf, hi, this]
    simp only [packT, hu]
    rw [run_equalIn_array w dd as.toArray bs.toArray hu hi, hc, List.range_eq_range']
    exact eqItems_leafs hE hs.1 hs.2.2 hue hsc n 0 xs ys r hr (by simpa using ha) (by simpa using hb) w
   ·simp at h
  ·rename_i fs hu
   split at h
   ·simp at h
   ·rename_i hst
    split at h
    ·rename_i l hl
     split at h <;> simp at h
     subst h
     have hf : P.fieldsOf t = fs := by simp [Program.fieldsOf, hu]
     simp only [packT, hu]
     rw [run_equalIn_struct w dd t as.toArray bs.toArray (by rw [hf]; exact hu) (by simpa using hst), hf]
     exact eqFields_leafs (fun t' ls' h' => equal_leafs d t' ls' h' dd (by omega)) fs.toList 0 l hl xs ys r hr (by simpa using ha) (by simpa using hb) w
    ·simp at h
  ·simp at h
end
end Go.Ahs
