/- Keys of maps: they are compared, looked for, checked. -/
import Derived.Test.YtnlimogbokkfpaaGreatChsA11
import Derived.MapKept
set_option linter.unusedSimpArgs false
set_option linter.unusedVariables false
namespace Go.Ahs
theorem leafEq_true {l : Leaf} {x y : AVal} {r : Bool} (h : leafEq l x y = some r) : (r = true ↔ x = y) := by
 rcases leafEq_inv h with ⟨k, a, b, rfl, rfl, rfl, rfl⟩ | ⟨a, b, rfl, rfl, rfl, rfl⟩ | ⟨a, b, rfl, rfl, rfl, rfl⟩ <;> simp
theorem cellsEq_true : ∀ {ls : List Leaf} {xs ys : List AVal} {r : Bool}, cellsEq ls xs ys = some r → (r = true ↔ xs = ys)
 | [], [], [], r, h => by simp [cellsEq] at h; subst h; simp
 | l :: ls, x :: xs, y :: ys, r, h => by
  unfold cellsEq at h
  split at h
  ·rename_i a b h1 h2
   simp at h; subst h
   have e1 := leafEq_true h1
   have e2 := cellsEq_true h2
   simp only [Bool.and_eq_true, e1, e2, List.cons.injEq]
  ·simp at h
 | [], [], _ :: _, r, h => by simp [cellsEq] at h
 | [], _ :: _, _, r, h => by simp [cellsEq] at h
 | _ :: _, [], _, r, h => by simp [cellsEq] at h
 | _ :: _, _ :: _, [], r, h => by simp [cellsEq] at h
theorem keyCells_inj {g : Bool} {x y : AVal} {cs : List AVal} (hx : keyCells g x = some cs) (hy : keyCells g y = some cs) : x = y := by
 cases g <;> cases x <;> simp [keyCells] at hx <;> subst hx <;> cases y <;> simp_all [keyCells]
theorem keyEq_inv {g : Bool} {ls : List Leaf} {x y : AVal} {r : Bool} (h : keyEq g ls x y = some r) : ∃ xs ys, keyCells g x = some xs ∧ keyCells g y = some ys ∧ cellsEq ls xs ys = some r := by
 unfold keyEq at h
 split at h
 ·exact ⟨_, _, by assumption, by assumption, h⟩
 ·simp at h
theorem keyEq_true {g : Bool} {ls : List Leaf} {x y : AVal} {r : Bool} (h : keyEq g ls x y = some r) : (r = true ↔ x = y) := by
 obtain ⟨xs, ys, h1, h2, h3⟩ := keyEq_inv h
 rw [cellsEq_true h3]
 constructor
 ·rintro rfl; exact keyCells_inj h1 h2
 ·rintro rfl; rw [h1] at h2; simpa using h2
section
variable {P : Program} {ρ : Mp}
theorem keyCells_rel {t : TypeId} {g : Bool} {ls : List Leaf} (ht : keyT P t = some (g, ls)) {x : AVal} {a : Value} (h : VRel ρ x a) {xs : List AVal} (hx : keyCells g x = some xs) :
  LRel ρ xs a.cells.toList ∧ packT P t a.cells.toList = a := by
 have hgt : g = true → ((∃ fs, P.underlying t = some (.struct fs)) ∨ ∃ n e, P.underlying t = some (.array n e)) := by
  intro hg; subst hg
  unfold keyT at ht
  split at ht <;> simp at ht
  ·exact .inl ⟨_, by assumption⟩
  ·exact .inr ⟨_, _, by assumption⟩
 have hgf : g = false → (∀ fs, P.underlying t ≠ some (.struct fs)) ∧ ∀ n e, P.underlying t ≠ some (.array n e) := by
  intro hg; subst hg
  refine ⟨fun fs hu => ?_, fun n e hu => ?_⟩
  ·unfold keyT at ht
   rw [hu] at ht
   split at ht <;> simp at ht
   rename_i n1 n2 e1 e2
   simp at e1
   exact n1 _ e1.symm
  ·unfold keyT at ht
   rw [hu] at ht
   split at ht <;> simp at ht
   rename_i n1 n2 e1 e2
   simp at e1
   exact n2 _ _ e1.symm
 have hc := h.cells
 cases g with
 | true =>
  cases x <;> simp [keyCells] at hx
  subst hx
  obtain ⟨vs, rfl, hl⟩ := h.agg_inv
  refine ⟨hl, ?_⟩
  unfold packT
  rcases hgt rfl with ⟨fs, hu⟩ | ⟨n, e, hu⟩ <;> simp [hu, Value.cells]
 | false =>
  obtain ⟨q1, q2⟩ := hgf rfl
  have hp : ∀ v : Value, packT P t [v] = v := by
   intro v
   unfold packT
   split
   ·rename_i fs hu; exact absurd hu (q1 fs)
   ·rename_i n e hu; exact absurd hu (q2 n e)
   ·rfl
  cases x <;> simp [keyCells] at hx <;> subst hx <;> cases h <;> exact ⟨hc, hp _⟩
theorem keyT_leafs {t : TypeId} {g : Bool} {ls : List Leaf} (ht : keyT P t = some (g, ls)) : leafs P 100 t = some ls := by
 unfold keyT at ht
 split at ht <;> simp at ht <;> obtain ⟨rfl, rfl⟩ := ht <;> assumption
theorem key_equal {t : TypeId} {g : Bool} {ls : List Leaf} (ht : keyT P t = some (g, ls)) {x y : AVal} {r : Bool} (h : keyEq g ls x y = some r) {a b : Value} (hx : VRel ρ x a) (hy : VRel ρ y b) (w : World) :
  (Op.equal t a b).run P w = .ok r w := by
 obtain ⟨xs, ys, h1, h2, h3⟩ := keyEq_inv h
 obtain ⟨l1, p1⟩ := keyCells_rel ht hx h1
 obtain ⟨l2, p2⟩ := keyCells_rel ht hy h2
 have := equal_leafs 100 t ls (keyT_leafs ht) 10000 (by omega) xs ys r h3 ρ _ _ l1 l2 w
 rw [p1, p2] at this
 exact this
def ChkLeafs (P : Program) (em : Bool) (dd : Nat) (t : TypeId) (ls : List Leaf) : Prop :=
 ∀ (xs : List AVal), cellsEq ls xs xs = some true → ∀ (ρ : Mp) (as : List Value), LRel ρ xs as → ∀ w, (Instr.checkKey em dd t (packT P t as)).run P w = .ok () w
theorem forIn_ok {α : Type} {f : α → PUnit → Sem (ForInStep PUnit)} {w : World} : ∀ (l : List α), (∀ x ∈ l, ∀ u, (f x u).run P w = .ok (.yield PUnit.unit) w) → (forIn (m := Sem) l PUnit.unit f).run P w = .ok PUnit.unit w
 | [], _ => by simp
 | x :: l, h => by
  have hx := h x (by simp) PUnit.unit
  have ih := forIn_ok l (fun y hy => h y (by simp [hy]))
  simp only [List.forIn_cons, Sem.run_bind, hx, Result.andThen_ok]
  exact ih
theorem chkFields_leafs {em : Bool} {d dd : Nat} (ih : ∀ t ls, leafs P d t = some ls → ChkLeafs P em dd t ls) {as : Array Value} {ρ : Mp} {w : World} : ∀ (fs : List Field) (off : Nat) (ls : List Leaf), leafsFs P (leafs P d) off fs = some ls →
  ∀ (xs : List AVal), cellsEq ls xs xs = some true → LRel ρ xs (as.toList.drop off) → ∀ f ∈ fs, f.name ≠ "_" ∧ ∃ a, (part f.type as f.offset).run P w = .ok a w ∧ (Instr.checkKey em dd f.type a).run P w = .ok () w
 | [], off, ls, h, xs, hr, ha, f, hf => by simp at hf
 | f :: fs, off, ls, h, xs, hr, ha, g, hg => by
  unfold leafsFs at h
  split at h
  ·rename_i l hl
   split at h
   ·rename_i hc
    obtain ⟨rfl, hsz, hnm, hpos⟩ := hc
    simp at h
    obtain ⟨ls', h1, h2⟩ := h
    subst h2
    obtain ⟨r1, r2, q1, q2, q3⟩ := cellsEq_append hr
    obtain ⟨rfl, rfl⟩ : r1 = true ∧ r2 = true := by simpa using q3.symm
    obtain ⟨e1, e2⟩ := cellsEq_length hr
    obtain ⟨dsc, hu, hsc⟩ := leafs_scalar hl
    have la := ha.1
    simp at la e1
    rcases List.mem_cons.1 hg with rfl | hg
    ·have hpa := run_part' (off := g.offset) (cs := as) hu hsz (by omega) hsc w
     have he := ih g.type l hl _ q1 ρ _ (ha.take l.length) w
     exact ⟨hnm, _, hpa, he⟩
    ·exact chkFields_leafs ih fs (f.offset + l.length) ls' h1 _ q2 (by have := ha.drop l.length; rwa [List.drop_drop] at this) g hg
   ·simp at h
  ·simp at h
theorem chkItems_leafs {em : Bool} {dd : Nat} {e : TypeId} {l : List Leaf} (hE : ChkLeafs P em dd e l) (hsz : sizeT P e = some l.length) (hpos : 0 < l.length) {dsc : TypeDesc} (hu : P.underlying e = some dsc)
  (hsc : (∀ fs, dsc ≠ .struct fs) → (∀ k e, dsc ≠ .array k e) → l.length = 1) {as : Array Value} {ρ : Mp} {w : World} : ∀ (n i : Nat) (xs : List AVal),
  cellsEq (List.replicate n l).flatten xs xs = some true → LRel ρ xs (as.toList.drop (i * l.length)) → ∀ j ∈ List.range' i n, ∃ a, (part e as (j * l.length)).run P w = .ok a w ∧ (Instr.checkKey em dd e a).run P w = .ok () w
 | 0, i, xs, hr, ha, j, hj => by simp at hj
 | n + 1, i, xs, hr, ha, j, hj => by
  simp only [List.replicate_succ, List.flatten_cons] at hr
  have hmul : (n + 1) * l.length = n * l.length + l.length := Nat.succ_mul _ _
  obtain ⟨r1, r2, q1, q2, q3⟩ := cellsEq_append hr
  obtain ⟨rfl, rfl⟩ : r1 = true ∧ r2 = true := by simpa using q3.symm
  obtain ⟨e1, e2⟩ := cellsEq_length hr
  have la := ha.1
  simp at la e1
  rw [List.range'_succ] at hj
  rcases List.mem_cons.1 hj with rfl | hj
  ·have hpa := run_part' (off := j * l.length) (cs := as) hu hsz (by omega) hsc w
   exact ⟨_, hpa, hE _ q1 ρ _ (ha.take l.length) w⟩
  ·exact chkItems_leafs hE hsz hpos hu hsc n (i + 1) _ q2 (by have := ha.drop l.length; rwa [List.drop_drop, ← Nat.succ_mul] at this) j hj
theorem check_leafs (em : Bool) : ∀ (d : Nat) (t : TypeId) (ls : List Leaf), leafs P d t = some ls → ∀ dd, d ≤ dd → ChkLeafs P em dd t ls
 | 0, t, ls, h => by simp [leafs] at h
 | d + 1, t, ls, h => by
  intro dd hdd xs hr ρ as ha w
  obtain ⟨dd, rfl⟩ : ∃ m, dd = m + 1 := ⟨dd - 1, by omega⟩
  unfold leafs at h
  split at h
  ·rename_i k hu
   simp [packT, hu, Instr.checkKey, run_und hu]
  ·rename_i hu
   simp [packT, hu, Instr.checkKey, run_und hu]
  ·rename_i hu
   simp [packT, hu, Instr.checkKey, run_und hu]
  ·rename_i n e hu
   split at h
   ·rename_i l hl
    split at h <;> simp at h
    rename_i hs
    subst h
    obtain ⟨dsc, hue, hsc⟩ := leafs_scalar hl
    have hE := check_leafs em d e l hl dd (by omega)
    simp only [packT, hu, Instr.checkKey, Sem.run_bind, run_und hu, Result.andThen_ok]
    simp only [Std.Legacy.Range.forIn_eq_forIn_range', Std.Legacy.Range.size, Nat.sub_zero, Nat.add_one_sub_one, Nat.div_one]
    rw [forIn_ok (P := P) (w := w) (List.range' 0 n) ?_]
    ·rfl
    ·intro j hj u
     obtain ⟨a, p1, p2⟩ := chkItems_leafs (as := as.toArray) (w := w) hE hs.1 hs.2.2 hue hsc n 0 xs hr (by simpa using ha) j hj
     simp only [Sem.run_bind, run_sizeOf' hs.1, p1, Result.andThen_ok, p2, Sem.run_pure]
   ·simp at h
  ·rename_i fs hu
   split at h
   ·simp at h
   ·rename_i hst
    split at h
    ·rename_i l hl
     split at h <;> simp at h
     subst h
     simp only [packT, hu, Instr.checkKey, Sem.run_bind, run_und hu, Result.andThen_ok]
     rw [← Array.forIn_toList, forIn_ok (P := P) (w := w) fs.toList ?_]
     ·rfl
     ·intro f hf u
      obtain ⟨hn, a, p1, p2⟩ := chkFields_leafs (as := as.toArray) (w := w) (fun t' ls' h' => check_leafs em d t' ls' h' dd (by omega)) fs.toList 0 l hl xs hr (by simpa using ha) f hf
      simp only [Sem.run_bind, hn, ne_eq, not_false_eq_true, if_true, p1, Result.andThen_ok, p2, Sem.run_pure]
    ·simp at h
  ·simp at h
theorem key_check {t : TypeId} {g : Bool} {ls : List Leaf} (ht : keyT P t = some (g, ls)) {x : AVal} (h : keyEq g ls x x = some true) {a : Value} (hx : VRel ρ x a) (em : Bool) (w : World) :
  (Instr.checkKey em 10000 t a).run P w = .ok () w := by
 obtain ⟨xs, ys, h1, h2, h3⟩ := keyEq_inv h
 rw [h1] at h2; simp at h2; subst h2
 obtain ⟨l1, p1⟩ := keyCells_rel ht hx h1
 have := check_leafs em 100 t ls (keyT_leafs ht) 10000 (by omega) xs h3 ρ _ l1 w
 rw [p1] at this
 exact this
theorem leaf_fun {l : Leaf} {x : AVal} (h : leafEq l x x = some true) {a b : Value} (ha : VRel ρ x a) (hb : VRel ρ x b) : a = b ∧ ∀ n, Instr.sameBits n a a = true := by
 rcases leafEq_inv h with ⟨k, c, d, rfl, rfl, _, _⟩ | ⟨c, d, rfl, rfl, _, _⟩ | ⟨c, d, rfl, rfl, _, _⟩
 ·cases ha; cases hb; exact ⟨rfl, fun n => by cases n <;> simp [Instr.sameBits]⟩
 ·cases ha; cases hb; exact ⟨rfl, fun n => by cases n <;> simp [Instr.sameBits]⟩
 ·cases ha with | str h1 => cases hb with | str h2 =>
  rw [bytes_eq h1, bytes_eq h2]
  exact ⟨rfl, fun n => by cases n <;> simp [Instr.sameBits, Go.MapKept.bytes_beq]⟩
theorem cells_fun : ∀ {ls : List Leaf} {xs : List AVal}, cellsEq ls xs xs = some true → ∀ {as bs : List Value}, LRel ρ xs as → LRel ρ xs bs → as = bs ∧ ∀ n, (as.zip as).all (fun (x, y) => Instr.sameBits n x y) = true
 | [], [], _, [], [], _, _ => ⟨rfl, fun _ => rfl⟩
 | [], [], _, _ :: _, _, h, _ => by have := h.1; simp at this
 | [], [], _, [], _ :: _, _, h => by have := h.1; simp at this
 | l :: ls, x :: xs, h, [], _, h1, _ => by have := h1.1; simp at this
 | l :: ls, x :: xs, h, _ :: _, [], _, h1 => by have := h1.1; simp at this
 | l :: ls, x :: xs, h, a :: as, b :: bs, h1, h2 => by
  unfold cellsEq at h
  split at h
  ·rename_i p q hp hq
   simp at h
   obtain ⟨rfl, rfl⟩ := h
   obtain ⟨e1, e2⟩ := leaf_fun hp h1.head h2.head
   obtain ⟨e3, e4⟩ := cells_fun hq h1.tail h2.tail
   subst e1 e3
   exact ⟨rfl, fun n => by simp [e2 n]; simpa using e4 n⟩
  ·simp at h
 | [], _ :: _, h, _, _, _, _ => by simp [cellsEq] at h
 | _ :: _, [], h, _, _, _, _ => by simp [cellsEq] at h
theorem key_fun {g : Bool} {ls : List Leaf} {x : AVal} (h : keyEq g ls x x = some true) {a b : Value} (ha : VRel ρ x a) (hb : VRel ρ x b) : a = b ∧ Instr.sameBits 10000 a a = true := by
 obtain ⟨xs, ys, h1, h2, h3⟩ := keyEq_inv h
 rw [h1] at h2; simp at h2; subst h2
 cases g with
 | true =>
  cases x <;> simp [keyCells] at h1
  subst h1
  obtain ⟨as, rfl, l1⟩ := ha.agg_inv
  obtain ⟨bs, rfl, l2⟩ := hb.agg_inv
  obtain ⟨e1, e2⟩ := cells_fun h3 l1 l2
  refine ⟨by rw [Array.toList_inj.1 e1], ?_⟩
  show (as.size == as.size && (as.toList.zip as.toList).all fun (x, y) => Instr.sameBits 9999 x y) = true
  rw [e2]; simp
 | false =>
  have hx : xs = [x] := by cases x <;> simp [keyCells] at h1 <;> exact h1.symm
  subst hx
  match ls, h3 with
  | [l], h3 =>
   unfold cellsEq at h3
   split at h3
   ·rename_i p q hp hq
    simp at h3
    obtain ⟨rfl, rfl⟩ := h3
    obtain ⟨e1, e2⟩ := leaf_fun hp ha hb
    exact ⟨e1, e2 _⟩
   ·simp at h3
  | [], h3 => simp [cellsEq] at h3
  | _ :: _ :: _, h3 =>
   have := cellsEq_length h3
   simp at this
def findAt (g : Bool) (ls : List Leaf) (k : AVal) (l : List (AVal × AVal)) : Option Nat := l.findIdx? (isKey g ls k)
theorem findAsking_sim {t : TypeId} {g : Bool} {ls : List Leaf} (ht : keyT P t = some (g, ls)) {k : AVal} {a : Value} (hk : VRel ρ k a) (w : World) : ∀ (l : List (AVal × AVal)) (es : List MapEntry) (i : Nat),
  (∀ e ∈ l, (keyEq g ls k e.1).isSome = true) → ERel ρ l es → (Instr.findAsking t a es i).run P w = .ok ((findAt g ls k l).bind fun j => (es[j]?).map fun e => (i + j, e.val)) w
 | [], [], i, _, _ => by simp [Instr.findAsking, findAt]
 | [], _ :: _, i, _, h => by have := h.1; simp at this
 | _ :: _, [], i, _, h => by have := h.1; simp at this
 | (k', v') :: l, e :: es, i, hok, h => by
  obtain ⟨v1, v2⟩ := h.2 0 k' v' e rfl rfl
  have hs := hok (k', v') (by simp)
  obtain ⟨r, hr⟩ := Option.isSome_iff_exists.1 hs
  have he := key_equal ht hr hk v1 w
  have htail : ERel ρ l es := ⟨by have := h.1; simpa using this, fun j k v e h1 h2 => h.2 (j + 1) k v e (by simpa using h1) (by simpa using h2)⟩
  have ih := findAsking_sim ht hk w l es (i + 1) (fun e he => hok e (by simp [he])) htail
  simp only [Instr.findAsking, Sem.run_bind, he, Result.andThen_ok]
  have hkey : isKey g ls k (k', v') = r := by simp only at hr; simp [isKey, hr]
  cases r with
  | true => simp [findAt, List.findIdx?_cons, hkey]
  | false =>
   simp only [Bool.false_eq_true, if_false, ih]
   simp only [findAt, List.findIdx?_cons, hkey, Bool.false_eq_true, if_false]
   cases hf : List.findIdx? (isKey g ls k) l with
   | none => simp
   | some j => simp only [Option.map_some, Option.bind_some, List.getElem?_cons_succ]; congr 2; funext e; congr 1; omega
theorem sameNow_eq {t : TypeId} {g : Bool} {ls : List Leaf} (ht : keyT P t = some (g, ls)) {d : TypeDesc} (hd : P.underlying t = some d) {x y : AVal} {r r' : Bool} (h : keyEq g ls x y = some r) {a b : Value} (hx : VRel ρ x a) (hy : VRel ρ y b)
  (hs : Instr.sameNow d a b = some r') : r' = r := by
 obtain ⟨xs, ys, h1, h2, h3⟩ := keyEq_inv h
 have hiff := keyEq_true h
 unfold Instr.sameNow at hs
 split at hs
 ·cases hx; cases hy
  split at hs <;> simp at hs
  subst hs
  rename_i k' a' b' hkk
  subst hkk
  rw [Bool.eq_iff_iff, hiff]; simp
 ·cases hx with | str e1 => cases hy with | str e2 =>
  rename_i s1 s2
  simp at hs
  subst hs
  rw [Bool.eq_iff_iff, hiff, Go.MapKept.bytes_beq]
  simp only [AVal.str.injEq, ← e1, ← e2]
  constructor
  ·rintro rfl; rfl
  ·intro he
   rw [bytes_eq e1, bytes_eq e2, ← e1, ← e2, he]
 ·cases hx; cases hy
  simp at hs
  subst hs
  rw [Bool.eq_iff_iff, hiff]; simp
 ·simp at hs
theorem findNow_sim {t : TypeId} {g : Bool} {ls : List Leaf} (ht : keyT P t = some (g, ls)) {d : TypeDesc} (hd : P.underlying t = some d) {k : AVal} {a : Value} (hk : VRel ρ k a) : ∀ (l : List (AVal × AVal)) (es : List MapEntry) (i : Nat) (r : Option (Nat × Value)),
  (∀ e ∈ l, (keyEq g ls k e.1).isSome = true) → ERel ρ l es → Instr.findNow d a es i = some r → r = (findAt g ls k l).bind fun j => (es[j]?).map fun e => (i + j, e.val)
 | [], [], i, r, _, _, h => by simp [Instr.findNow] at h; simp [findAt, ← h]
 | [], _ :: _, i, r, _, h, _ => by have := h.1; simp at this
 | _ :: _, [], i, r, _, h, _ => by have := h.1; simp at this
 | (k', v') :: l, e :: es, i, r, hok, h, hf => by
  obtain ⟨v1, v2⟩ := h.2 0 k' v' e rfl rfl
  have hs := hok (k', v') (by simp)
  obtain ⟨r0, hr⟩ := Option.isSome_iff_exists.1 hs
  have htail : ERel ρ l es := ⟨by have := h.1; simpa using this, fun j k v e h1 h2 => h.2 (j + 1) k v e (by simpa using h1) (by simpa using h2)⟩
  have hkey : isKey g ls k (k', v') = r0 := by simp only at hr; simp [isKey, hr]
  unfold Instr.findNow at hf
  split at hf
  ·rename_i hsn
   have := sameNow_eq ht hd hr hk v1 hsn
   subst this
   simp at hf
   simp [findAt, List.findIdx?_cons, hkey, ← hf]
  ·rename_i hsn
   have := sameNow_eq ht hd hr hk v1 hsn
   subst this
   have ih := findNow_sim ht hd hk l es (i + 1) r (fun e he => hok e (by simp [he])) htail hf
   rw [ih]
   simp only [findAt, List.findIdx?_cons, hkey, Bool.false_eq_true, if_false]
   cases hf : List.findIdx? (isKey g ls k) l with
   | none => simp
   | some j => simp only [Option.map_some, Option.bind_some, List.getElem?_cons_succ]; congr 1; funext e; congr 1; omega
  ·simp at hf
theorem findKey_sim {t : TypeId} {g : Bool} {ls : List Leaf} (ht : keyT P t = some (g, ls)) {k : AVal} {a : Value} (hk : VRel ρ k a) (w : World) {l : List (AVal × AVal)} {es : List MapEntry}
  (hok : ∀ e ∈ l, (keyEq g ls k e.1).isSome = true) (h : ERel ρ l es) : (Instr.findKey t a es).run P w = .ok ((findAt g ls k l).bind fun j => (es[j]?).map fun e => (j, e.val)) w := by
 obtain ⟨d, hd⟩ : ∃ d, P.underlying t = some d := by
  unfold keyT at ht
  split at ht <;> simp at ht <;> exact ⟨_, by assumption⟩
 simp only [Instr.findKey, Sem.run_bind, run_und hd, Result.andThen_ok]
 split
 ·rename_i r hr
  have := findNow_sim ht hd hk l es 0 r hok h hr
  rw [this]
  simp
 ·have := findAsking_sim ht hk w l es 0 hok h
  simpa using this
end
end Go.Ahs
