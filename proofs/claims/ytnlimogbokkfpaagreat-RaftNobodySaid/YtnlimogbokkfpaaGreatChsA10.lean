/- Slicing, indexing, copying, making, converting. -/
import Derived.Test.YtnlimogbokkfpaaGreatChsA9
set_option linter.unusedSimpArgs false
set_option linter.unusedVariables false
namespace Go.Ahs
def OVal (ρ : Mp) : Option AVal → Option Value → Prop
 | none, none => True
 | some v, some v' => VRel ρ v v'
 | _, _ => False
section
variable {P : Program} {n0 lim : Nat} {ρ : Mp} {H H' : Heap} {w : World} {v : AVal}
theorem natOr_inv {d n : Nat} {o : Option AVal} {o' : Option Value} (h : OVal ρ o o') (hn : natOr d o = some n) :
  (o' = none ∧ o = none ∧ n = d) ∨ (∃ k i, o' = some (.int k i) ∧ o.isSome ∧ 0 ≤ i ∧ i.toNat = n) := by
 cases o with
 | none => cases o' with
  | none => simp [natOr] at hn; exact .inl ⟨rfl, rfl, hn.symm⟩
  | some v' => exact h.elim
 | some v => cases o' with
  | none => exact h.elim
  | some v' =>
   obtain ⟨k, i, rfl, h0, h1⟩ := natOf_rel h hn
   exact .inr ⟨k, i, rfl, rfl, h0, h1⟩
theorem run_sliceBound {k : IntKind} {i : Int} {y n : Nat} {code : BoundsCode} (h0 : 0 ≤ i) (h1 : i.toNat = n) (h2 : n ≤ y) : (Instr.sliceBound (.int k i) y code).run P w = .ok n w := by
 simp only [Instr.sliceBound, asIntOf, Sem.run_bind, Sem.run_pure, Result.andThen_ok]
 rw [if_pos (by omega)]
 simp [h1]
theorem run_sliceBounds {isSlice : Bool} {len cap l h m : Nat} {lo hi mx : Option AVal} {lo' hi' mx' : Option Value} (hlo : OVal ρ lo lo') (hhi : OVal ρ hi hi') (hmx : OVal ρ mx mx')
  (h1 : natOr 0 lo = some l) (h2 : natOr len hi = some h) (h3 : natOr cap mx = some m) (hno : ¬ (hi.isNone = true ∧ mx.isSome = true)) (hlh : l ≤ h) (hhm : hi.isSome = true → h ≤ m) (hmc : m ≤ cap) :
  (Instr.sliceBounds isSlice len cap lo' hi' mx').run P w = .ok (l, h, m) w := by
 unfold Instr.sliceBounds
 rcases natOr_inv hmx h3 with ⟨rfl, rfl, rfl⟩ | ⟨k3, i3, rfl, s3, a3, b3⟩
 ·rcases natOr_inv hhi h2 with ⟨rfl, rfl, rfl⟩ | ⟨k2, i2, rfl, s2, a2, b2⟩
  ·rcases natOr_inv hlo h1 with ⟨rfl, rfl, rfl⟩ | ⟨k1, i1, rfl, s1, a1, b1⟩
   ·simp
   ·simp [run_sliceBound a1 b1 hlh]
  ·have q2 : ∀ code, (Instr.sliceBound (.int k2 i2) m code).run P w = .ok h w := fun code => run_sliceBound a2 b2 (hhm s2)
   rcases natOr_inv hlo h1 with ⟨rfl, rfl, rfl⟩ | ⟨k1, i1, rfl, s1, a1, b1⟩
   ·simp [q2]
   ·simp [q2, run_sliceBound a1 b1 hlh]
 ·have q3 : ∀ code, (Instr.sliceBound (.int k3 i3) cap code).run P w = .ok m w := fun code => run_sliceBound a3 b3 hmc
  rcases natOr_inv hhi h2 with ⟨rfl, rfl, rfl⟩ | ⟨k2, i2, rfl, s2, a2, b2⟩
  ·exact absurd ⟨rfl, s3⟩ hno
  ·have q2 : ∀ code, (Instr.sliceBound (.int k2 i2) m code).run P w = .ok h w := fun code => run_sliceBound a2 b2 (hhm s2)
   rcases natOr_inv hlo h1 with ⟨rfl, rfl, rfl⟩ | ⟨k1, i1, rfl, s1, a1, b1⟩
   ·simp [q3, q2]
   ·simp [q3, q2, run_sliceBound a1 b1 hlh]
theorem hi_or {n h : Nat} {hi mx : Option AVal} (e : (if (hi.isNone && mx.isSome) = true then none else natOr n hi) = some h) : natOr n hi = some h ∧ ¬ (hi.isNone = true ∧ mx.isSome = true) := by
 split at e
 ·simp at e
 ·rename_i hc
  exact ⟨e, by simpa using hc⟩
theorem slice_sim (hr : Rel P n0 ρ H w) {t e : TypeId} {sz : Nat} (ht : P.underlying t = some (.slice e)) (hsz : sizeT P e = some sz) {x : AVal} {x' : Value} {lo hi mx : Option AVal} {lo' hi' mx' : Option Value}
  (hx : VRel ρ x x') (hlo : OVal ρ lo lo') (hhi : OVal ρ hi hi') (hmx : OVal ρ mx mx') (h : aslice sz x lo hi mx = some v) :
  Sim1 P n0 lim ρ H w (Instr.sliceAt t x' lo' hi' mx') v H := by
 have real : ∀ (a : Option Addr) (n cp l h m : Nat), x' = .slice a n cp → natOr 0 lo = some l → natOr n hi = some h → natOr cp mx = some m → ¬ (hi.isNone = true ∧ mx.isSome = true) → l ≤ h → (hi.isSome = true → h ≤ m) → m ≤ cp →
   VRel ρ v (.slice (if m = l then a else a.map (·.add (l * sz))) (h - l) (m - l)) → Sim1 P n0 lim ρ H w (Instr.sliceAt t x' lo' hi' mx') v H := by
  rintro a n cp l h m rfl h1 h2 h3 h4 h5 h6 h7 hv
  refine .same hr ?_ hv
  simp only [Instr.sliceAt, Sem.run_bind, run_und ht, Result.andThen_ok, Instr.slice, run_sliceBounds (P := P) (w := w) (isSlice := true) hlo hhi hmx h1 h2 h3 h4 h5 h6 h7, run_sizeOf' hsz, Sem.run_pure]
 unfold aslice at h
 split at h
 case h_2 => simp at h
 rename_i a n c
 simp only [Option.bind_eq_bind, Option.bind_eq_some_iff] at h
 obtain ⟨hh, e0, l, e2, h⟩ := h
 obtain ⟨e1, hno⟩ := hi_or e0
 clear e0
 split at h
 ·rename_i k
  simp only [Option.bind_eq_some_iff] at h
  obtain ⟨m, e3, h⟩ := h
  split at h <;> simp at h
  rename_i hc
  obtain ⟨c1, c2, c3⟩ := hc
  subst h
  cases hx with
  | slN => exact real none 0 0 l hh m rfl e2 e1 e3 hno c3 (fun _ => c2) c1 (by
    obtain rfl : m = 0 := by omega
    obtain rfl : hh = 0 := by omega
    obtain rfl : l = 0 := by omega
    exact .slN)
  | slG hb => exact real _ 0 0 l hh m rfl e2 e1 e3 hno c3 (fun _ => c2) c1 (by
    obtain rfl : m = 0 := by omega
    obtain rfl : hh = 0 := by omega
    obtain rfl : l = 0 := by omega
    exact .slG hb)
  | slX hb hn =>
   rename_i b o L
   refine real _ n k l hh m rfl e2 e1 e3 hno c3 (fun _ => c2) c1 ?_
   split
   ·exact .slX hb (by omega)
   ·simp only [shift, Option.map_some, add_eq]
    rw [Nat.add_assoc]
    exact .slX hb (by omega)
 ·rename_i hnex
  split at h
  ·rename_i hmn
   obtain rfl : mx = none := by simpa using hmn
   have e3 : ∀ cp, natOr cp (none : Option AVal) = some cp := fun cp => rfl
   split at h
   ·rename_i ez kn
    split at h <;> simp at h
    rename_i hc
    obtain ⟨c1, c2, rfl⟩ := hc
    subst h
    cases hx with
    | slO hb hn hcz hkn =>
     rename_i b o cp L
     have hmx : max n kn ≤ cp := by omega
     refine real _ n cp l hh cp rfl e2 e1 (e3 cp) hno c2 (fun _ => by omega) (Nat.le_refl _) ?_
     split
     ·rename_i hcl
      obtain rfl : hh = l := by omega
      simp only [shift, Option.map_some, Nat.sub_self]
      subst hcl
      rw [show max n kn - cp = 0 by omega]
      simp only [Nat.sub_self]
      exact .slE hb (by omega)
     ·simp only [shift, Option.map_some, add_eq]
      rw [Nat.add_assoc]
      refine .slO hb (by omega) ?_ (by omega)
      have : cp * ez = l * ez + (cp - l) * ez := by rw [← Nat.add_mul]; congr 1; omega
      omega
    | slE hb hcz =>
     obtain rfl : hh = 0 := by omega
     obtain rfl : l = 0 := by omega
     refine real _ 0 0 0 0 0 rfl e2 e1 (e3 0) hno c2 (fun _ => by omega) (Nat.le_refl _) ?_
     simp only [shift, Option.map_some, Nat.zero_mul, Nat.add_zero, if_true, Nat.sub_self, Nat.max_self]
     exact .slE hb hcz
   ·rename_i hnop
    split at h <;> simp at h
    rename_i hc
    obtain ⟨c1, c2, c3⟩ := hc
    subst h
    cases hx with
    | slN => exact absurd rfl (hnex 0)
    | slG => exact absurd rfl (hnex 0)
    | slX => exact absurd rfl (hnex _)
    | slO => exact absurd rfl (hnop _ _)
    | slE => exact absurd rfl (hnop _ _)
    | slU hb hn =>
     rename_i b o cp L
     refine real _ n cp l hh cp rfl e2 e1 (e3 cp) hno c2 (fun _ => by omega) (Nat.le_refl _) ?_
     split
     ·rename_i hcl
      obtain rfl : hh = l := by omega
      simp only [shift, Option.map_some, Nat.sub_self]
      subst hcl
      simp only [Nat.sub_self]
      exact .slF hb
     ·simp only [shift, Option.map_some, add_eq]
      rw [Nat.add_assoc]
      exact .slU hb (by omega)
    | slF hb =>
     obtain rfl : hh = 0 := by omega
     obtain rfl : l = 0 := by omega
     refine real _ 0 0 0 0 0 rfl e2 e1 (e3 0) hno c2 (fun _ => by omega) (Nat.le_refl _) ?_
     simp only [shift, Option.map_some, Nat.zero_mul, Nat.add_zero, if_true, Nat.sub_self]
     exact .slF hb
  ·rename_i hmn
   simp only [Option.bind_eq_some_iff] at h
   obtain ⟨m, e3, h⟩ := h
   split at h <;> simp at h
   rename_i hc
   obtain ⟨c1, c2, c3⟩ := hc
   subst h
   have e3' : ∀ cp, natOr cp mx = some m := by
    intro cp
    cases mx with
    | none => simp at hmn
    | some x => exact e3
   have fin : ∀ (b o cp : Nat) (L : Loc), ρ b = some L → a = some (b, o) → n ≤ cp → x' = .slice (some ⟨L.blk, L.d + o, none⟩) n cp → Sim1 P n0 lim ρ H w (Instr.sliceAt t x' lo' hi' mx') (.sl (if m = l then a else shift a (l * sz)) (hh - l) (.ex (m - l))) H := by
    intro b o cp L hb ha hn hx'
    refine real _ n cp l hh m hx' e2 e1 (e3' cp) hno c3 (fun _ => c2) (by omega) ?_
    subst ha
    split
    ·exact .slX hb (by omega)
    ·simp only [shift, Option.map_some, add_eq]
     rw [Nat.add_assoc]
     exact .slX hb (by omega)
   have zero : ∀ (b o : Nat) (ad : Addr) (L : Loc), ρ b = some L → a = some (b, o) → n = 0 → x' = .slice (some ad) 0 0 → Sim1 P n0 lim ρ H w (Instr.sliceAt t x' lo' hi' mx') (.sl (if m = l then a else shift a (l * sz)) (hh - l) (.ex (m - l))) H := by
    intro b o ad L hb ha hn hx'
    subst hn
    obtain rfl : m = 0 := by omega
    obtain rfl : hh = 0 := by omega
    obtain rfl : l = 0 := by omega
    refine real _ 0 0 0 0 0 hx' e2 e1 (e3' 0) hno c3 (fun _ => c2) (by omega) ?_
    subst ha
    exact .slG hb
   cases hx with
   | slN => exact absurd rfl (hnex 0)
   | slG => exact absurd rfl (hnex 0)
   | slX => exact absurd rfl (hnex _)
   | slO hb hn hcz _ => exact fin _ _ _ _ hb rfl hn rfl
   | slE hb hcz => exact zero _ _ _ _ hb rfl rfl rfl
   | slU hb hn => exact fin _ _ _ _ hb rfl hn rfl
   | slF hb => exact zero _ _ _ _ hb rfl rfl rfl
theorem sliceStr_sim (hr : Rel P n0 ρ H w) {t : TypeId} (ht : P.underlying t = some .string) {x : AVal} {x' : Value} {lo hi : Option AVal} {lo' hi' : Option Value}
  (hx : VRel ρ x x') (hlo : OVal ρ lo lo') (hhi : OVal ρ hi hi') (h : asliceStr x lo hi = some v) :
  Sim1 P n0 lim ρ H w (Instr.sliceAt t x' lo' hi' none) v H := by
 unfold asliceStr at h
 split at h
 case h_2 => simp at h
 rename_i s
 simp only [Option.bind_eq_bind, Option.bind_eq_some_iff] at h
 obtain ⟨hh, e1, l, e2, h⟩ := h
 split at h <;> simp at h
 rename_i hc
 subst h
 cases hx with | str hs =>
 rename_i s'
 have hl := size_list hs
 have hb := run_sliceBounds (P := P) (w := w) (isSlice := false) (len := s'.size) (cap := s'.size) (mx := none) (mx' := none) hlo hhi trivial e2 (by rw [hl]; exact e1) rfl (by simp) hc.2 (fun _ => by omega) (Nat.le_refl _)
 refine .same hr (v' := .string (s'.extract l hh)) ?_ (.str ?_)
 ·simp only [Instr.sliceAt, Sem.run_bind, run_und ht, Result.andThen_ok, Instr.slice, Option.isSome_none, Bool.false_eq_true, if_false, hb, Sem.run_pure]
 ·rw [ByteArray.data_extract, Array.toList_extract, List.extract_eq_take_drop, hs]
theorem sliceArr_sim (hr : Rel P n0 ρ H w) {t e : TypeId} {n sz : Nat} (ht : P.underlying t = some (.array n e)) (hsz : sizeT P e = some sz) {x : AVal} {x' : Value} {lo hi mx : Option AVal} {lo' hi' mx' : Option Value}
  (hx : VRel ρ x x') (hlo : OVal ρ lo lo') (hhi : OVal ρ hi hi') (hmx : OVal ρ mx mx') (h : asliceArr n sz x lo hi mx = some v) :
  Sim1 P n0 lim ρ H w (Instr.sliceAt t x' lo' hi' mx') v H := by
 unfold asliceArr at h
 split at h
 case h_2 => simp at h
 rename_i b o
 simp only [Option.bind_eq_bind, Option.bind_eq_some_iff] at h
 obtain ⟨hh, e0, l, e2, m, e3, h⟩ := h
 obtain ⟨e1, hno⟩ := hi_or e0
 clear e0
 split at h <;> simp at h
 rename_i hc
 subst h
 cases hx with | ptr hb =>
 rename_i L
 have hbd := run_sliceBounds (P := P) (w := w) (isSlice := false) hlo hhi hmx e2 e1 e3 hno hc.2.2 (fun _ => hc.2.1) hc.1
 refine .same hr (v' := .slice (some (if m = l then (⟨L.blk, L.d + o, none⟩ : Addr) else (⟨L.blk, L.d + o, none⟩ : Addr).add (l * sz))) (hh - l) (m - l)) ?_ ?_
 ·simp only [Instr.sliceAt, Sem.run_bind, run_und ht, Result.andThen_ok, Instr.sureAddr, hbd, run_sizeOf' hsz, Sem.run_pure]
 ·split
  ·exact .slX hb (by omega)
  ·rw [add_eq, Nat.add_assoc]; exact .slX hb (by omega)
theorem indexAddr_sim (hr : Rel P n0 ρ H w) {t e : TypeId} {arr : Option Nat} {sz : Nat} (ht : match arr with | none => P.underlying t = some (.slice e) | some n => P.underlying t = some (.array n e)) (hsz : sizeT P e = some sz)
  {x i : AVal} {x' i' : Value} (hx : VRel ρ x x') (hi : VRel ρ i i') (h : aindexAddr arr sz x i = some v) : Sim1 P n0 lim ρ H w (Instr.indexAt t x' i') v H := by
 unfold aindexAddr at h
 split at h
 ·rename_i j b o n c hj
  split at h <;> simp at h
  rename_i hjn
  subst h
  obtain ⟨k, ii, rfl, h0, h1⟩ := natOf_rel hi hj
  have : ∃ L cp, ρ b = some L ∧ x' = .slice (some ⟨L.blk, L.d + o, none⟩) n cp := by
   cases hx <;> first | exact ⟨_, _, by assumption, rfl⟩ | (exact absurd hjn (Nat.not_lt_zero _))
  obtain ⟨L, cp, hb, rfl⟩ := this
  refine .same hr (v' := .pointer (some ⟨L.blk, L.d + o + ii.toNat * sz, none⟩)) ?_ ?_
  ·simp only [Instr.indexAt, asIntOf, Sem.run_bind, Sem.run_pure, Result.andThen_ok, run_und ht]
   rw [if_pos (by omega)]
   simp only [Sem.run_bind, run_sizeOf' hsz, Result.andThen_ok, Sem.run_pure, add_eq]
  ·rw [Nat.add_assoc, h1]; exact .ptr hb
 ·rename_i j b o n hj
  split at h <;> simp at h
  rename_i hjn
  subst h
  obtain ⟨k, ii, rfl, h0, h1⟩ := natOf_rel hi hj
  cases hx with | ptr hb =>
  rename_i L
  refine .same hr (v' := .pointer (some ⟨L.blk, L.d + o + ii.toNat * sz, none⟩)) ?_ ?_
  ·simp only [Instr.indexAt, asIntOf, Sem.run_bind, Sem.run_pure, Result.andThen_ok, run_und ht, Instr.sureAddr]
   rw [if_pos (by omega)]
   simp only [Sem.run_bind, run_sizeOf' hsz, Result.andThen_ok, Sem.run_pure, add_eq]
  ·rw [Nat.add_assoc, h1]; exact .ptr hb
 ·simp at h
theorem index_sim (hr : Rel P n0 ρ H w) {t e : TypeId} {n sz : Nat} {g : Option Nat} (ht : P.underlying t = some (.array n e)) (hsz : sizeT P e = some sz) (hg : aggT P e = some g)
  {x i : AVal} {x' i' : Value} (hx : VRel ρ x x') (hi : VRel ρ i i') (h : aindex n sz g.isSome x i = some v) : Sim1 P n0 lim ρ H w (Instr.index t x' i') v H := by
 unfold aindex at h
 split at h
 ·rename_i j cs hj
  split at h
  ·rename_i hjn
   obtain ⟨k, ii, rfl, h0, h1⟩ := natOf_rel hi hj
   obtain ⟨c, rfl, hc⟩ := hx.agg_inv
   have hg' : (if g.isSome = true then some sz else none) = g := by
    cases g with
    | none => rfl
    | some m =>
     unfold aggT at hg
     split at hg <;> simp [hsz] at hg <;> simp [hg]
   rw [hg'] at h
   obtain ⟨v', q1, q2⟩ := part_sim (P := P) e hg hc h w
   refine .same hr (v' := v') ?_ q2
   simp only [Instr.index, asIntOf, Sem.run_bind, Sem.run_pure, Result.andThen_ok, run_und ht]
   rw [if_pos (by omega)]
   simp only [Sem.run_bind, run_sizeOf' hsz, Result.andThen_ok, h1, q1]
  ·simp at h
 ·simp at h
theorem indexStr_sim (hr : Rel P n0 ρ H w) {t : TypeId} (ht : P.underlying t = some .string) {x i : AVal} {x' i' : Value} (hx : VRel ρ x x') (hi : VRel ρ i i') (h : aindexStr x i = some v) :
  Sim1 P n0 lim ρ H w (Instr.index t x' i') v H := by
 unfold aindexStr at h
 split at h
 ·rename_i j s hj
  rw [Option.map_eq_some_iff] at h
  obtain ⟨c, hc, rfl⟩ := h
  obtain ⟨k, ii, rfl, h0, h1⟩ := natOf_rel hi hj
  cases hx with | str hs =>
  rename_i s'
  have hlt : j < s.length := by
   rcases Nat.lt_or_ge j s.length with h | h
   ·exact h
   ·rw [List.getElem?_eq_none h] at hc; simp at hc
  have hlt' : j < s'.size := by rw [size_list hs]; exact hlt
  have hget : s'[j] = c := by
   subst hs
   rw [List.getElem?_eq_getElem hlt] at hc
   simp at hc
   rw [← hc]; rfl
  refine .same hr (v' := .int .u8 c.toNat) ?_ (.int _ _)
  simp only [Instr.index, asIntOf, Sem.run_bind, Sem.run_pure, Result.andThen_ok, run_und ht]
  rw [if_pos h0, h1, getElem?_pos s' j hlt', hget]
  rfl
 ·simp at h
theorem copy_sim (hr : Rel P n0 ρ H w) (hl : n0 ≤ lim) {t e ty : TypeId} {sz : Nat} {argTypes : Array TypeId} (h0 : argTypes[0]? = some t) (ht : P.underlying t = some (.slice e)) (hsz : sizeT P e = some sz)
  {d s : AVal} {d' s' : Value} (hd : VRel ρ d d') (hs : VRel ρ s s') (h : acopy lim H sz d s = some (v, H')) : Sim1 P n0 lim ρ H w (Builtin.copy_ argTypes ty #[d', s']) v H' := by
 unfold acopy at h
 split at h
 case h_2 => simp at h
 rename_i a n c
 simp only [Option.bind_eq_bind, Option.bind_eq_some_iff] at h
 obtain ⟨⟨m, new⟩, hsrc, h⟩ := h
 simp only at h
 obtain ⟨a', cp, rfl, hncp⟩ := slice_all hd
 obtain ⟨q1, q2, q3⟩ := source_sim (P := P) hr hs hsrc
 have hk : Nat.min m n = min m n := rfl
 obtain ⟨news, q4, q5⟩ := q3 (min m n) (Nat.min_le_left _ _)
 have head : (Builtin.copy_ argTypes ty #[.slice a' n cp, s']).run P w = (match a' with
   | some p => ((storeCells p news.toList).run P w).andThen fun _ w' => .ok (goInt ((min m n : Nat) : Int)) w'
   | none => .ok (goInt ((min m n : Nat) : Int)) w) := by
  unfold Builtin.copy_
  simp only [h0, Sem.run_bind, run_und ht, Result.andThen_ok, q1, hk, run_sizeOf' hsz, q4 w rfl, List.getElem?_toArray, List.getElem?_cons_zero, List.getElem?_cons_succ]
  cases a' <;> simp only [Sem.run_pure, Sem.run_bind] <;> rfl
 split at h
 ·rename_i hk0
  simp at h
  obtain ⟨rfl, rfl⟩ := h
  have hnil : news.toList = [] := by
   have := q5.1
   simp [hk0] at this
   exact List.eq_nil_of_length_eq_zero (by simpa using this.symm)
  refine .same hr (v' := goInt ((min m n : Nat) : Int)) ?_ (by rw [hk0]; exact .int _ _)
  rw [head]
  cases a' with
  | none => rfl
  | some p => simp only [hnil, run_storeCells_nil, Result.andThen_ok]
 ·rename_i hk0
  split at h
  case h_2 => simp at h
  rename_i b o
  simp only [Option.bind_eq_some_iff] at h
  obtain ⟨cs, hc, h⟩ := h
  split at h <;> simp at h
  rename_i hcond
  obtain ⟨rfl, rfl⟩ := h
  have : ∃ L, ρ b = some L ∧ a' = some ⟨L.blk, L.d + o, none⟩ := by
   cases hd <;> first | exact ⟨_, by assumption, rfl⟩ | (exact absurd (Nat.min_zero _) hk0)
  obtain ⟨L, hb, rfl⟩ := this
  have hlen : (new.take (min m n * sz)).length = min m n * sz := by
   rw [List.length_take, q2]; exact Nat.min_eq_left (Nat.mul_le_mul_right _ (Nat.min_le_left _ _))
  obtain ⟨w', r1, r2⟩ := write_sim (P := P) (o := o) hr hl hcond.1 hb hc q5 (by simpa using hcond.2.2) (by rw [hlen]; exact hcond.2.1)
  refine ⟨goInt ((min m n : Nat) : Int), w', ρ, ?_, r2, .int _ _⟩
  rw [head]
  simp only [r1, Result.andThen_ok]
theorem makeSlice_sim (hr : Rel P n0 ρ H w) (hlim : lim ≤ H.next) (hf : ρ H.next = none) {t e : TypeId} {i : TypeInfo} {zl : List AVal} (ht : P.underlying t = some (.slice e)) (hi : P.info? e = some i) (hz : zeroT P e = some zl)
  {l c : AVal} {l' c' : Value} (hl : VRel ρ l l') (hc : VRel ρ c c') (hpos : 0 < zl.length) (h : amakeSlice H zl i.bytes l c = some (v, H')) : Sim1 P n0 lim ρ H w (Instr.makeSlice t l' c') v H' := by
 obtain ⟨i', z, hi', hzv, hzl, hzc, hzr, hz1⟩ := zeroT_inv ρ hz
 rw [hi] at hi'; simp at hi'; subst hi'
 unfold amakeSlice at h
 split at h
 case h_2 => simp at h
 rename_i a b
 split at h <;> simp at h
 rename_i hcond
 obtain ⟨h1, h2, h3, h4⟩ := hcond
 obtain ⟨rfl, rfl⟩ := h
 cases hl; cases hc
 unfold room at h3 h4
 have hwl := wrap_small h1 (by omega)
 have hwc := wrap_small (l := b) (by omega) (by omega)
 have hsize : sizeT P e = some i.size := by simp [sizeT, hi]
 obtain ⟨n, rfl⟩ := Int.eq_ofNat_of_zero_le (by omega : 0 ≤ b)
 simp only [Int.toNat_natCast] at *
 have hbytes : ((i.bytes : Int) * (n : Int) > 2 ^ 48) ↔ False := by
  simp only [iff_false, Int.not_lt, gt_iff_lt]
  rw [Int.mul_comm]; omega
 let cells : Array Value := if n * i.size = 0 then #[] else ((Array.range (n * i.size)).map (z.cells[· % z.cells.size]!))
 have hcells : cells.toList = (List.replicate n z.cells.toList).flatten := by
  have hp : 0 < z.cells.size := by omega
  by_cases h0 : n * i.size = 0
  ·have : n = 0 := by
    rcases Nat.mul_eq_zero.1 h0 with q | q
    ·exact q
    ·omega
   subst this
   simp [cells]
  ·simp only [cells, if_neg h0]
   have := flat_range z.cells n hp
   rw [hzc] at this ⊢
   exact this
 have hrel : LRel ρ (rep n zl) cells.toList := by rw [hcells]; exact rep_rel hzr _
 obtain ⟨r1, r2⟩ := alloc_sim (P := P) (lim := lim) hr hlim hf e hrel
 refine ⟨.slice (some ⟨w.heap.size, 0, none⟩) a.toNat n, _, _, ?_, r2, .slX (upd_same _ _ _) (by omega)⟩
 unfold Instr.makeSlice
 simp only [Sem.run_bind, run_und ht, Result.andThen_ok, asInt, asIntOf, Sem.run_pure, run_typeInfo' hi, hwl, hwc, hbytes, decide_false, Bool.or_false]
 rw [if_neg (by simp; omega)]
 simp only [run_askRoom, Sem.run_bind, Result.andThen_ok, run_sizeOf' hsize, Int.toNat_natCast]
 by_cases h0 : n * i.size = 0
 ·simp only [h0, if_true, Sem.run_pure, Result.andThen_ok]
  have : cells = #[] := by simp [cells, h0]
  simp only [newRow, Sem.run_bind, run_newObj, Result.andThen_ok, Sem.run_pure]
  rw [this]
  have e0 : ∀ f : Nat → Value, Array.map f (Array.range 0) = #[] := fun f => by simp
  simp [e0]
 ·simp only [h0, if_false, Sem.run_bind, run_zeroValue' hi hzv, Sem.run_pure, Result.andThen_ok, newRow, run_newObj]
  simp [cells, h0]
theorem bytes_fold {c : List AVal} {s : List UInt8} {as : List Value} (h : bytesOfCells c = some s) (hr : LRel ρ c as) (acc : ByteArray) :
  ∃ r : ByteArray, (forIn as acc (fun (c : Value) (s : ByteArray) => (match c with
   | .int .u8 n => pure (ForInStep.yield (s.push (UInt8.ofNat n.toNat)))
   | _ => stuck "bytesToString: byte expected" : Sem (ForInStep ByteArray)))).run P w = .ok r w ∧ r.data.toList = acc.data.toList ++ s := by
 induction c generalizing s as acc with
 | nil =>
  simp [bytesOfCells] at h; subst h
  have : as = [] := List.eq_nil_of_length_eq_zero hr.1.symm
  subst this
  exact ⟨acc, by simp, by simp⟩
 | cons x xs ih =>
  match as with
  | [] => have := hr.1; simp at this
  | a :: as =>
   have hx := hr.head
   unfold bytesOfCells at h
   split at h
   ·rename_i heq; simp at heq
   ·rename_i n rest heq
    simp at heq
    obtain ⟨rfl, rfl⟩ := heq
    rw [Option.map_eq_some_iff] at h
    obtain ⟨s', h1, rfl⟩ := h
    cases hx
    obtain ⟨r, q1, q2⟩ := ih h1 hr.tail (acc.push (UInt8.ofNat n.toNat))
    refine ⟨r, ?_, ?_⟩
    ·simp only [List.forIn_cons, Sem.run_bind, Sem.run_pure, Result.andThen_ok]
     exact q1
    ·rw [q2, ByteArray.data_push]; simp
   ·simp at h
theorem bytesToStr_sim (hr : Rel P n0 ρ H w) {x : AVal} {x' : Value} (hx : VRel ρ x x') (h : abytesToStr H x = some v) : Sim1 P n0 lim ρ H w (Conv.bytesToString x') v H := by
 unfold abytesToStr at h
 split at h
 ·simp at h; subst h
  cases hx
  exact .same hr (v' := .string .empty) rfl (.str rfl)
 ·rename_i b o n c
  simp only [Option.bind_eq_bind, Option.bind_eq_some_iff] at h
  obtain ⟨cs, hc, cells, hcut, s, hs, h⟩ := h
  simp at h; subst h
  obtain ⟨hle, rfl⟩ := cut_some hcut
  have fin : ∀ (as : Array Value) (a : Addr) (cp : Nat), x' = .slice (some a) n cp → (loadCells a n).run P w = .ok as w → LRel ρ ((cs.drop o).take n) as.toList → Sim1 P n0 lim ρ H w (Conv.bytesToString x') (.str s) H := by
   rintro as a cp rfl h1 h2
   obtain ⟨r, q1, q2⟩ := bytes_fold (P := P) (w := w) hs h2 .empty
   refine .same hr (v' := .string r) ?_ (.str (by simpa using q2))
   simp only [Conv.bytesToString, Sem.run_bind, h1, Result.andThen_ok]
   rw [← Array.forIn_toList]
   refine Eq.trans (congrArg (fun z => Result.andThen z _) (Eq.trans ?_ q1)) rfl
   rfl
  have zero : n = 0 → ∀ (a : Addr) cp, x' = .slice (some a) n cp → Sim1 P n0 lim ρ H w (Conv.bytesToString x') (.str s) H := by
   rintro rfl a cp hx'
   exact fin #[] a cp hx' (by simp [loadCells, loadCellsFrom]) (by simpa using LRel.nil ρ)
  have full : ∀ (L : Loc) cp, ρ b = some L → x' = .slice (some ⟨L.blk, L.d + o, none⟩) n cp → Sim1 P n0 lim ρ H w (Conv.bytesToString x') (.str s) H := by
   intro L cp hb hx'
   obtain ⟨cc, e, fr, h1, h2, h3, h4, h5⟩ := hr.cells hb hc
   exact fin _ _ cp hx' (run_loadCells_blk h1 (by omega)) (by simpa using h5.drop_take hle)
  cases hx with
  | slX hb hn => exact full _ _ hb rfl
  | slO hb hn hc _ => exact full _ _ hb rfl
  | slE hb hc => exact zero rfl _ _ rfl
  | slU hb hn => exact full _ _ hb rfl
  | slF hb => exact zero rfl _ _ rfl
  | slG hb => exact zero rfl _ _ rfl
 ·simp at h
theorem strToBytes_sim (hr : Rel P n0 ρ H w) (hlim : lim ≤ H.next) (hf : ρ H.next = none) (e : TypeId) {x : AVal} {x' : Value} (hx : VRel ρ x x') (h : strToBytes H x = some (v, H')) :
  ∃ s, x' = .string s ∧ Sim1 P n0 lim ρ H w (Conv.stringToBytes e s) v H' := by
 unfold strToBytes at h
 split at h
 case h_2 => simp at h
 rename_i l
 split at h <;> simp at h
 rename_i hroom
 obtain ⟨rfl, rfl⟩ := h
 cases hx with | str hs =>
 rename_i s
 refine ⟨s, rfl, ?_⟩
 have hl := size_list hs
 let k := (Question.appendCap s.size 0 e).cut (w.tape w.drawn (.appendCap s.size 0 e))
 have hk : s.size ≤ k := by simp [k, Question.cut]
 have hfc : (Question.appendCap s.size 0 e).forced = false := rfl
 let cells : Array Value := (s.data.map fun b => Value.int .u8 b.toNat) ++ Array.replicate (k - s.size) (.int .u8 0)
 have hds : s.data.size = s.size := rfl
 have hsz : cells.size = k := by simp [cells]; omega
 let w1 : World := { w with heap := w.heap.push (.cells cells e), drawn := w.drawn + 1 }
 let w2 : World := w1.freeze { block := w.heap.size, off := cells.size } 1
 have hw2 : w2.heap = w.heap.push (.cells cells e (cells.size, cells.size + 1)) := by
  have h1 : w2.heap = (w.heap.push (.cells cells e)).modify w.heap.size fun
    | .cells c elem (lo, hi) => .cells c elem (if lo == hi then (cells.size, cells.size + 1) else (min lo cells.size, max hi (cells.size + 1)))
    | o => o := by
   show (w1.freeze { block := w.heap.size, off := cells.size } 1).heap = _
   unfold World.freeze
   rw [if_neg (by omega)]
   rfl
  rw [h1]
  apply Array.ext
  ·simp
  ·intro j h1 h2
   simp only [Array.getElem_modify, Array.getElem_push]
   have h3 : j < w.heap.size + 1 := by simpa using h2
   by_cases hj : j < w.heap.size
   ·rw [if_neg (by omega)]; simp [hj]
   ·have : j = w.heap.size := by omega
    subst this
    simp
 have hrun : (Conv.stringToBytes e s).run P w = .ok (.slice (some ⟨w.heap.size, 0, none⟩) s.size k) w2 := by
  unfold Conv.stringToBytes
  simp only [Sem.run_bind, run_choose, hfc, Bool.false_eq_true, if_false, Result.andThen_ok, newRow, run_newObj, Sem.run_pure, markStringish, run_shape]
  have hshape : w1.shape? w.heap.size = some (e, cells.size) := by simp [World.shape?, w1]
  show (Sem.run P (match w1.shape? w.heap.size with
   | some (_, n) => freeze { block := w.heap.size, off := n } 1
   | x => pure ()) w1).andThen _ = _
  rw [hshape]
  rfl
 have halloc := hr.alloc (lim := lim) hlim hf (l.map fun c => .int .u8 c.toNat) cells e (cells.size, cells.size + 1) (by simp [hsz]; omega) (by
   have : cells.toList.take (l.map fun c => AVal.int .u8 c.toNat).length = l.map fun b => Value.int .u8 b.toNat := by
    simp only [cells, Array.toList_append, Array.toList_map, hs, List.length_map]
    rw [List.take_left' (by simp)]
   rw [this]
   exact LRel.map_same _ _ _ fun c _ => .int _ _) (fun i hi hh => by omega) hw2 ⟨rfl, rfl, rfl⟩
 refine ⟨_, w2, _, hrun, halloc, ?_⟩
 rw [hl]
 refine .slO (upd_same _ _ _) (by omega) ?_ (Nat.zero_le _)
 simp only [hsz]; omega
end
end Go.Ahs
