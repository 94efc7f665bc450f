/- Twin, as a primitive: the heap that it leaves, in a row of its own; and that each run's heap is this one but for the row. -/
import Derived.Test.YtjflpnahjooffaaChsP9
import Derived.Test.YtjflpnahjooffaaChsX1
import Derived.Test.YtjflpnahjooffaaDtPr
import Derived.Test.YtjflpnahjooffaaDtW0
import Derived.Test.YtjflpnahjooffaaChsX2
import Derived.Test.YtjflpnahjooffaaChecked
set_option maxRecDepth 100000
set_option linter.unusedVariables false
set_option linter.unusedSimpArgs false
namespace Go.Proofs.Ytjflpnahjooffaa.disk
open Go.Ahs

def pushAll : List Blk → Heap → Heap
  | [], H => H
  | x :: l, H => pushAll l (H.push x)
theorem pushAll_next : ∀ (l : List Blk) (H : Heap), (pushAll l H).next = H.next + l.length
  | [], H => rfl
  | x :: l, H => by rw [pushAll, pushAll_next l, Heap.next_push, List.length_cons]; omega
theorem pushAll_old : ∀ (l : List Blk) {H : Heap} {b : Nat}, b < H.next → (pushAll l H).get b = H.get b
  | [], _, _, _ => rfl
  | x :: l, H, b, h => by rw [pushAll, pushAll_old l (by rw [Heap.next_push]; omega), Heap.get_push_old _ _ _ (by omega)]
theorem pushAll_new : ∀ (l : List Blk) (H : Heap) (i : Nat), i < l.length → (pushAll l H).get (H.next + i) = l[i]?
  | [], _, _, h => by simp at h
  | x :: l, H, 0, _ => by rw [pushAll, pushAll_old l (by rw [Heap.next_push]; omega)]; exact Heap.get_push_new H x
  | x :: l, H, i + 1, h => by
    rw [pushAll]
    have := pushAll_new l (H.push x) i (by simpa using h)
    rw [Heap.next_push, show H.next + 1 + i = H.next + (i + 1) by omega] at this
    rw [this]; rfl

theorem nodup_inj {α : Type} {l : List α} (h : l.Nodup) {i j : Nat} (hi : i < l.length) (hj : j < l.length) (e : l[i] = l[j]) : i = j := by
  rcases Nat.lt_trichotomy i j with q | q | q
  · exact absurd e (List.pairwise_iff_getElem.1 h i j hi hj q)
  · exact q
  · exact absurd e.symm (List.pairwise_iff_getElem.1 h j i hj hi q)

def isStr : AVal → Bool
  | .str _ => true
  | _ => false
/-- The block of a copy, and the copy if its block is p. -/
def cblk (H : Heap) : AVal → Option Blk
  | .sl none 0 (.ex 0) => some .dead
  | .sl (some (b, o)) n c => if n = 0 then some (.cells []) else
    match source H 1 (.sl (some (b, o)) n c) with
    | some (m, new) => if m = n ∧ new.all isStr = true ∧ n * 16 ≤ room then some (.cells new) else none
    | none => none
  | _ => none
def cval (p : Nat) : AVal → AVal
  | .sl none _ _ => .sl none 0 (.ex 0)
  | .sl (some _) n _ => if n = 0 then .sl (some (p, 0)) 0 (.ex 0) else .sl (some (p, 0)) n (.op 1 0)
  | v => v
def fblk (H : Heap) : AVal → Option Blk
  | .agg [s, .int .i64 _, .bool _, .str _] => cblk H s
  | _ => none
def fval (p : Nat) : AVal → AVal
  | .agg [s, a, b, c] => .agg [cval p s, a, b, c]
  | v => v
def fvals : Nat → List (List UInt8 × AVal) → List (List UInt8 × AVal)
  | _, [] => []
  | j, (k, v) :: r => (k, fval j v) :: fvals (j + 1) r
def decS : List (AVal × AVal) → Option (List (List UInt8 × AVal))
  | [] => some []
  | (.str s, v) :: r => (decS r).map ((s, v) :: ·)
  | _ => none
theorem decS_enc : ∀ {es : List (AVal × AVal)} {vs : List (List UInt8 × AVal)}, decS es = some vs → es = encE strK vs
  | [], vs, h => by simp [decS] at h; subst h; rfl
  | (k, v) :: r, vs, h => by
    unfold decS at h
    split at h
    · simp at *
    · rename_i s v' r' heq
      simp only [List.cons.injEq, Prod.mk.injEq] at heq
      obtain ⟨⟨rfl, rfl⟩, rfl⟩ := heq
      cases hr : decS r with
      | none => rw [hr] at h; simp at h
      | some w =>
        rw [hr] at h
        simp only [Option.map_some, Option.some.injEq] at h
        subst h
        rw [decS_enc hr]
        rfl
    · simp at h

def bxO (off : Bool) (fuse : Int) (p : Nat) : List AVal := [.map (some p), .bool off, .int .i64 fuse]
def twinBs (H : Heap) (off : Bool) (fuse : Int) (vs : List (List UInt8 × AVal)) : List Blk :=
  .map (encE strK (fvals (H.next + 2) vs)) ⟨vs.length, []⟩ :: .cells (bxO off fuse H.next) :: (vs.map (fun x => (fblk H x.2).getD .dead) ++ List.replicate (2 * vs.length) .dead)

def gTwin (_ : Nat) (args : List AVal) (H : Heap) : Option (AVal × Heap) :=
  match args with
  | [.ptr (some (b, 0))] => match H.cells b with
    | some [.map (some m), .bool off, .int .i64 fuse] => match H.get m with
      | some (.map es _) => match decS es with
        | some vs => if (vs.map (·.1)).Nodup ∧ (vs.all fun x => (fblk H x.2).isSome) = true then some (.ptr (some (H.next + 1, 0)), pushAll (twinBs H off fuse vs) H) else none
        | none => none
      | _ => none
    | _ => none
  | _ => none

/-! How the values are told anew. -/
section
variable {σ : Nat → Nat}
theorem rv_int (k : IntKind) (n : Int) : RV σ (.int k n) (.int k n) := fun ρ z h => by cases h; exact .int k n
theorem rv_bool (b : Bool) : RV σ (.bool b) (.bool b) := fun ρ z h => by cases h; exact .bool b
theorem rv_str (s : List UInt8) : RV σ (.str s) (.str s) := fun ρ z h => by cases h with | str h => exact .str h
theorem rv_ptr {b o p : Nat} (e : σ b = p) : RV σ (.ptr (some (p, o))) (.ptr (some (b, o))) := fun ρ z h => by subst e; cases h with | ptr h => exact .ptr h
theorem rv_map {b p : Nat} (e : σ b = p) : RV σ (.map (some p)) (.map (some b)) := fun ρ z h => by subst e; cases h with | map h => exact .map h
theorem rv_slN : RV σ (.sl none 0 (.ex 0)) (.sl none 0 (.ex 0)) := fun ρ z h => by cases h; exact .slN
theorem rv_slX {b p : Nat} (e : σ b = p) : RV σ (.sl (some (p, 0)) 0 (.ex 0)) (.sl (some (b, 0)) 0 (.ex 0)) := fun ρ z h => by
  subst e
  cases h with
  | slX h hn => exact .slX h hn
  | slG h => exact .slG h
theorem rv_slO {b p n : Nat} (e : σ b = p) : RV σ (.sl (some (p, 0)) n (.op 1 0)) (.sl (some (b, 0)) n (.op 1 0)) := fun ρ z h => by
  subst e
  cases h with
  | slO h hn hc hk => exact .slO h hn hc hk
  | slE h hc => exact .slE h hc
theorem rv_agg {xs ys : List AVal} (h : RVs σ xs ys) : RV σ (.agg xs) (.agg ys) := fun ρ z hz => by
  cases hz with
  | agg h1 h2 =>
    rename_i vs
    have := h.rel (ρ := ρ) (zs := vs.toList) ⟨h1.trans (by simp), fun i v v' e e' => h2 i v v' e (by simpa using e')⟩
    exact .agg (this.1.trans (by simp)) fun i v v' e e' => this.2 i v v' e (by simpa using e')
theorem rvs_cons {x y : AVal} {xs ys : List AVal} (h : RV σ x y) (hs : RVs σ xs ys) : RVs σ (x :: xs) (y :: ys) := by
  refine ⟨by simp [hs.1], fun i x' y' e e' => ?_⟩
  cases i with
  | zero => simp at e e'; subst e e'; exact h
  | succ i => exact hs.2 i x' y' (by simpa using e) (by simpa using e')
theorem rvs_nil : RVs σ [] [] := ⟨rfl, fun i x y e => by simp at e⟩
theorem rvs_str {xs : List AVal} (h : xs.all isStr = true) : RVs σ xs xs := by
  refine ⟨rfl, fun i x y e e' => ?_⟩
  rw [e] at e'
  simp only [Option.some.injEq] at e'
  subst e'
  have := List.all_eq_true.1 h x (List.mem_of_getElem? e)
  cases x <;> simp [isStr] at this
  exact rv_str _

theorem rv_cval {H : Heap} {s : AVal} (h : (cblk H s).isSome = true) {b p : Nat} (e : σ b = p) : RV σ (cval p s) (cval b s) := by
  unfold cblk at h
  split at h
  · exact rv_slN
  · rename_i n c
    unfold cval
    by_cases hn : n = 0
    · simp only [hn, if_true]; exact rv_slX e
    · simp only [hn, if_false]; exact rv_slO e
  · simp at h
theorem rv_fval {H : Heap} {v : AVal} (h : (fblk H v).isSome = true) {b p : Nat} (e : σ b = p) : RV σ (fval p v) (fval b v) := by
  unfold fblk at h
  split at h
  · exact rv_agg (rvs_cons (rv_cval h e) (rvs_cons (rv_int _ _) (rvs_cons (rv_bool _) (rvs_cons (rv_str _) rvs_nil))))
  · simp at h
theorem rb_cblk {H : Heap} {s : AVal} {x : Blk} (h : cblk H s = some x) (hd : x ≠ .dead) : RB σ (some x) x := by
  unfold cblk at h
  split at h
  · simp at h; exact absurd h.symm hd
  · split at h
    · simp at h; subst h; exact .cells rvs_nil
    · split at h
      · split at h
        · rename_i hc
          simp at h; subst h; exact .cells (rvs_str hc.2.1)
        · simp at h
      · simp at h
  · simp at h
theorem rb_fblk {H : Heap} {v : AVal} {x : Blk} (h : fblk H v = some x) (hd : x ≠ .dead) : RB σ (some x) x := by
  unfold fblk at h
  split at h
  · exact rb_cblk h hd
  · simp at h
end

theorem fvals_len : ∀ (j : Nat) (vs : List (List UInt8 × AVal)), (fvals j vs).length = vs.length
  | _, [] => rfl
  | j, (k, v) :: r => by simp [fvals, fvals_len (j + 1) r]
theorem fvals_keys : ∀ (j : Nat) (vs : List (List UInt8 × AVal)), (fvals j vs).map (·.1) = vs.map (·.1)
  | _, [] => rfl
  | j, (k, v) :: r => by simp [fvals, fvals_keys (j + 1) r]
theorem fvals_get : ∀ (j : Nat) (vs : List (List UInt8 × AVal)) (i : Nat), (fvals j vs)[i]? = vs[i]?.map fun x => (x.1, fval (j + i) x.2)
  | _, [], _ => by simp [fvals]
  | j, (k, v) :: r, 0 => by simp [fvals]
  | j, (k, v) :: r, i + 1 => by
    rw [fvals, List.getElem?_cons_succ, List.getElem?_cons_succ, fvals_get (j + 1) r i, show j + 1 + i = j + (i + 1) by omega]

abbrev Done := List (List UInt8 × AVal × Nat)
/-- The heap when the entries of done have been copied, in this row. -/
structure TwInv (H : Heap) (off : Bool) (fuse : Int) (done : Done) (Hc : Heap) : Prop where
  hi : Hc.next ≤ H.next + 2 + 3 * done.length
  lo : H.next + 2 ≤ Hc.next
  old : ∀ b, b < H.next → Hc.get b = H.get b
  map : ∃ clk : Clk, clk.n = done.length ∧ Hc.get H.next = some (.map (encE strK (done.map fun d => (d.1, fval d.2.2 d.2.1))) clk)
  box : Hc.get (H.next + 1) = some (.cells (bxO off fuse H.next))
  each : ∀ d ∈ done, ∃ blk, fblk H d.2.1 = some blk ∧ (blk = .dead ∨ Hc.get d.2.2 = some blk)
  pos : ∀ d ∈ done, H.next + 2 ≤ d.2.2 ∧ d.2.2 ≤ Hc.next ∧ d.2.2 < H.next + 2 + 3 * done.length
  apart : (done.map (·.2.2)).Nodup

/-- Where the copy of the i-th entry lies. -/
def twPos (done : Done) (k : List UInt8) (d : Nat) : Nat := (lk (done.map fun d => (d.1, d.2.2)) k).getD d
def twSig (H : Heap) (vs : List (List UInt8 × AVal)) (done : Done) (b : Nat) : Nat :=
  if H.next + 2 ≤ b then match vs[b - (H.next + 2)]? with
    | some x => twPos done x.1 b
    | none => b
  else b

theorem twin_ren {H H1 : Heap} {off : Bool} {fuse : Int} {vs : List (List UInt8 × AVal)} {done : Done} (hn : (vs.map (·.1)).Nodup) (hf : (vs.all fun x => (fblk H x.2).isSome) = true) (I : TwInv H off fuse done H1) (hp : (done.map fun d => (d.1, d.2.1)).Perm vs) :
    Ren H (twSig H vs done) H1 (pushAll (twinBs H off fuse vs) H) (.ptr (some (H.next + 1, 0))) (.ptr (some (H.next + 1, 0))) := by
  have hlen : done.length = vs.length := by simpa using hp.length_eq
  have hN : (pushAll (twinBs H off fuse vs) H).next = H.next + 2 + 3 * vs.length := by
    rw [pushAll_next]; unfold twinBs; simp; omega
  have hdn : (done.map fun d => d.1).Nodup := by
    have : (done.map fun d => d.1) = (done.map fun d => (d.1, d.2.1)).map (·.1) := by simp
    rw [this]
    exact (hp.map (·.1)).nodup_iff.2 hn
  -- the done entry of the i-th
  have hpos : ∀ (i : Nat) x, vs[i]? = some x → ∃ d ∈ done, d.1 = x.1 ∧ d.2.1 = x.2 ∧ ∀ c, twPos done x.1 c = d.2.2 := by
    intro i x hx
    have hm : x ∈ done.map fun d => (d.1, d.2.1) := hp.mem_iff.2 (List.mem_of_getElem? hx)
    obtain ⟨d, hd, hde⟩ := List.mem_map.1 hm
    refine ⟨d, hd, by rw [← hde], by rw [← hde], fun c => ?_⟩
    unfold twPos
    rw [lk_of_mem (a := d.2.2) (by rw [List.map_map]; exact hdn) (List.mem_map.2 ⟨d, hd, by rw [← hde]⟩)]
    rfl
  have sig0 : ∀ b, b < H.next + 2 → twSig H vs done b = b := fun b hb => by unfold twSig; rw [if_neg (by omega)]
  have sig1 : ∀ b, H.next + 2 + vs.length ≤ b → twSig H vs done b = b := fun b hb => by
    unfold twSig
    rw [if_pos (by omega), List.getElem?_eq_none (by omega)]
  have sig2 : ∀ (i : Nat) x, vs[i]? = some x → twSig H vs done (H.next + 2 + i) = twPos done x.1 (H.next + 2 + i) := fun i x hx => by
    unfold twSig
    rw [if_pos (by omega), show H.next + 2 + i - (H.next + 2) = i by omega, hx]
  have split : ∀ b, b < H.next + 2 ∨ H.next + 2 + vs.length ≤ b ∨ ∃ i x, vs[i]? = some x ∧ b = H.next + 2 + i := by
    intro b
    by_cases h1 : b < H.next + 2
    · exact .inl h1
    · by_cases h2 : H.next + 2 + vs.length ≤ b
      · exact .inr (.inl h2)
      · have hi : b - (H.next + 2) < vs.length := by omega
        exact .inr (.inr ⟨b - (H.next + 2), vs[b - (H.next + 2)], List.getElem?_eq_getElem hi, by omega⟩)
  have get : ∀ b, H.next ≤ b → (pushAll (twinBs H off fuse vs) H).get b = (twinBs H off fuse vs)[b - H.next]? := by
    intro b hb
    by_cases hlt : b - H.next < (twinBs H off fuse vs).length
    · have := pushAll_new (twinBs H off fuse vs) H (b - H.next) hlt
      rw [show H.next + (b - H.next) = b by omega] at this
      exact this
    · rw [List.getElem?_eq_none (by omega), Heap.get_ge _ _ (by rw [pushAll_next]; omega)]
  have get0 : (pushAll (twinBs H off fuse vs) H).get H.next = some (.map (encE strK (fvals (H.next + 2) vs)) ⟨vs.length, []⟩) := by
    rw [get _ (Nat.le_refl _), Nat.sub_self]; rfl
  have get1 : (pushAll (twinBs H off fuse vs) H).get (H.next + 1) = some (.cells (bxO off fuse H.next)) := by
    rw [get _ (by omega), show H.next + 1 - H.next = 1 by omega]; rfl
  have get2 : ∀ (i : Nat) x, vs[i]? = some x → (pushAll (twinBs H off fuse vs) H).get (H.next + 2 + i) = some ((fblk H x.2).getD .dead) := by
    intro i x hx
    have hi := (List.getElem?_eq_some_iff.1 hx).1
    rw [get _ (by omega), show H.next + 2 + i - H.next = i + 2 by omega]
    unfold twinBs
    rw [List.getElem?_cons_succ, List.getElem?_cons_succ, List.getElem?_append_left (by simpa using hi), List.getElem?_map, hx]
    rfl
  have get3 : ∀ b x, H.next + 2 + vs.length ≤ b → (pushAll (twinBs H off fuse vs) H).get b = some x → x = .dead := by
    intro b x hb hx
    rw [get _ (by omega), show b - H.next = (b - H.next - 2) + 2 by omega] at hx
    unfold twinBs at hx
    rw [List.getElem?_cons_succ, List.getElem?_cons_succ, List.getElem?_append_right (by simp; omega)] at hx
    exact List.eq_of_mem_replicate (List.mem_of_getElem? hx)
  refine ⟨?_, ?_, ?_, ?_, ?_, ?_, ?_, ?_⟩
  · rw [hN]; have := I.hi; omega
  · have := I.lo; omega
  · intro b hb; exact pushAll_old _ hb
  · intro b hb
    rcases hb with hb | hb
    · exact sig0 b (by omega)
    · exact sig1 b (by omega)
  · intro b h1 h2
    rw [hN] at h2 ⊢
    rcases split b with hb | hb | ⟨i, x, hx, rfl⟩
    · rw [sig0 b hb]; omega
    · rw [sig1 b hb]; omega
    · obtain ⟨d, hd, _, _, hq⟩ := hpos i x hx
      rw [sig2 i x hx, hq]
      have := I.pos d hd
      omega
  · rintro b b' h1 h2 hne ⟨x, hx, hxd⟩ ⟨x', hx', hxd'⟩
    rcases split b with hb | hb | ⟨i, y, hy, rfl⟩ <;> rcases split b' with hb' | hb' | ⟨i', y', hy', rfl⟩
    · rw [sig0 b hb, sig0 b' hb']; exact hne
    · exact absurd (get3 b' x' hb' hx') hxd'
    · obtain ⟨d, hd, _, _, hq⟩ := hpos i' y' hy'
      rw [sig0 b hb, sig2 i' y' hy', hq]
      have := I.pos d hd
      omega
    · exact absurd (get3 b x hb hx) hxd
    · exact absurd (get3 b x hb hx) hxd
    · exact absurd (get3 b x hb hx) hxd
    · obtain ⟨d, hd, _, _, hq⟩ := hpos i y hy
      rw [sig0 b' hb', sig2 i y hy, hq]
      have := I.pos d hd
      omega
    · exact absurd (get3 b' x' hb' hx') hxd'
    · obtain ⟨d, hd, hk, _, hq⟩ := hpos i y hy
      obtain ⟨d', hd', hk', _, hq'⟩ := hpos i' y' hy'
      rw [sig2 i y hy, hq, sig2 i' y' hy', hq']
      intro e
      apply hne
      -- the same place: the same entry, the same index
      obtain ⟨j, hj, hje⟩ := List.getElem_of_mem hd
      obtain ⟨j', hj', hje'⟩ := List.getElem_of_mem hd'
      have hjj : j = j' := by
        refine nodup_inj I.apart (i := j) (j := j') (by simpa using hj) (by simpa using hj') ?_
        simp only [List.getElem_map, hje, hje', e]
      subst hjj
      have hkk : y.1 = y'.1 := by rw [← hk, ← hk', ← hje, ← hje']
      have hi := (List.getElem?_eq_some_iff.1 hy).1
      have hi' := (List.getElem?_eq_some_iff.1 hy').1
      have : i = i' := by
        refine nodup_inj hn (i := i) (j := i') (by simpa using hi) (by simpa using hi') ?_
        rw [List.getElem_map, List.getElem_map, (List.getElem?_eq_some_iff.1 hy).2, (List.getElem?_eq_some_iff.1 hy').2, hkk]
      omega
  · intro b x hb hx hxd
    rcases split b with hb' | hb' | ⟨i, y, hy, rfl⟩
    · rw [sig0 b hb']
      have hcases : b = H.next ∨ b = H.next + 1 := by omega
      rcases hcases with rfl | rfl
      · rw [get0] at hx
        simp only [Option.some.injEq] at hx
        subst hx
        obtain ⟨clk, hc, hm⟩ := I.map
        rw [hm]
        refine .map (by rw [hc, hlen]) ?_ ⟨encE strK (vs.map fun x => (x.1, fval (twPos done x.1 0) x.2)), ?_, ?_, ?_⟩
        · have : (encE strK (fvals (H.next + 2) vs)).map (·.1) = (vs.map (·.1)).map AVal.str := by
            rw [← fvals_keys (H.next + 2) vs]; unfold encE; simp only [List.map_map]; rfl
          rw [this]
          exact List.Pairwise.map _ (fun a b hab e => hab (by simpa using e)) hn
        · have e1 : done.map (fun d => (d.1, fval d.2.2 d.2.1)) = (done.map fun d => (d.1, d.2.1)).map fun x => (x.1, fval (twPos done x.1 0) x.2) := by
            rw [List.map_map]
            apply List.map_congr_left
            intro d hd
            have : twPos done d.1 0 = d.2.2 := by
              unfold twPos
              rw [lk_of_mem (a := d.2.2) (by rw [List.map_map]; exact hdn) (List.mem_map.2 ⟨d, hd, rfl⟩)]
              rfl
            simp only [Function.comp, this]
          rw [e1]
          unfold encE
          exact ((hp.map _).map _).symm
        · unfold encE; simp [fvals_len]
        · intro i p q hp' hq'
          unfold encE at hp' hq'
          rw [List.getElem?_map, List.getElem?_map] at hp'
          rw [List.getElem?_map, fvals_get] at hq'
          cases hy : vs[i]? with
          | none => rw [hy] at hp'; simp at hp'
          | some y =>
            rw [hy] at hp' hq'
            simp only [Option.map_some, Option.some.injEq] at hp' hq'
            subst hp' hq'
            have hfb := List.all_eq_true.1 hf y (List.mem_of_getElem? hy)
            obtain ⟨d, hd, _, _, hq⟩ := hpos i y hy
            exact ⟨rv_str _, rv_fval hfb (by rw [sig2 i y hy, hq, hq])⟩
      · rw [get1] at hx
        simp only [Option.some.injEq] at hx
        subst hx
        rw [I.box]
        exact .cells (rvs_cons (rv_map (sig0 _ (by omega))) (rvs_cons (rv_bool _) (rvs_cons (rv_int _ _) rvs_nil)))
    · exact absurd (get3 b x hb' hx) hxd
    · rw [get2 i y hy] at hx
      obtain ⟨d, hd, hk, hv, hq⟩ := hpos i y hy
      rw [sig2 i y hy, hq]
      obtain ⟨blk, hb1, hb2⟩ := I.each d hd
      rw [hv] at hb1
      rw [hb1] at hx
      simp only [Option.getD_some, Option.some.injEq] at hx
      subst hx
      rcases hb2 with hb2 | hb2
      · exact absurd hb2 hxd
      · rw [hb2]; exact rb_fblk hb1 hxd
  · exact rv_ptr (sig0 _ (by omega))


/-! Twin: its run, whatever is drawn. (Printed out of DxTw2.src by mktw.py.) -/

/-- slices.Clone. -/
theorem clone_run {H H1 : Heap} {n lim : Nat} {s : AVal} {blk : Blk} (h : cblk H s = some blk) (hold : ∀ b, b < H.next → H1.get b = H.get b) :
    ∃ p H2, Ahs.runT disktw.ap (n + 1) lim (.fn 100) [s] H1 = some (cval p s, H2) ∧ H1.next ≤ p ∧ p ≤ H1.next + 1 ∧ (blk = .dead ∨ H2.get p = some blk) ∧ (∀ b, b < H1.next → H2.get b = H1.get b) ∧ H1.next ≤ H2.next ∧ H2.next ≤ H1.next + 2 ∧ p ≤ H2.next ∧ (cval p s).cells = [cval p s] ∧ (cval p s).one = true ∧ s.one = true := by
  unfold cblk at h
  split at h
  · simp only [Option.some.injEq] at h
    refine ⟨H1.next, H1, ?_, Nat.le_refl _, by omega, .inl h.symm, fun _ _ => rfl, Nat.le_refl _, by omega, Nat.le_refl _, rfl, rfl, rfl⟩
    refine run_eqn (disktw.F100_run disktw.a100 ?_)
    unfold disktw.F100
    refine ⟨_, rfl, _, rfl, fun _ => ⟨rfl, rfl⟩, fun e => by simp at e⟩
  · rename_i b o m c
    by_cases hm : m = 0
    · simp only [hm, if_true, Option.some.injEq] at h
      subst hm
      refine ⟨H1.next, H1.push (.cells []), ?_, Nat.le_refl _, by omega, .inr (by rw [← h]; exact Heap.get_push_new H1 _), fun b hb => Heap.get_push_old _ _ _ (by omega), by rw [Heap.next_push]; omega, by rw [Heap.next_push]; omega, by rw [Heap.next_push]; omega, rfl, rfl, rfl⟩
      refine run_eqn (disktw.F100_run disktw.a100 ?_)
      unfold disktw.F100
      refine ⟨_, rfl, _, rfl, fun e => by simp at e, fun _ => ⟨_, _, rfl, _, _, rfl, rfl, rfl⟩⟩
    · simp only [hm, if_false] at h
      split at h
      case h_2 => simp at h
      rename_i m' new hsrc
      split at h
      case isFalse => simp at h
      rename_i hc
      simp only [Option.some.injEq] at h
      obtain ⟨rfl, hstr, hroom⟩ := hc
      have hone : new.all (·.one) = true := by
        rw [List.all_eq_true] at hstr ⊢
        intro x hx
        have := hstr x hx
        cases x <;> simp [isStr] at this
        rfl
      have hsrc1 : source (H1.push (.cells [])) 1 (.sl (some (b, o)) m' c) = some (m', new) := by
        unfold source at hsrc ⊢
        simp only [hm, if_false] at hsrc ⊢
        cases hcs : H.cells b with
        | none => rw [hcs] at hsrc; simp at hsrc
        | some cs =>
          have hb := Heap.cells_lt hcs
          have : H1.cells b = some cs := Heap.cells_eq.2 (by rw [hold b hb]; exact Heap.cells_eq.1 hcs)
          rw [cells_push_old this]
          rw [hcs] at hsrc
          exact hsrc
      have happ : aappend lim (H1.push (.cells [])) [.str []] 16 false (.sl (some (H1.next, 0)) 0 (.ex 0)) (.sl (some (b, o)) m' c) = some (.sl (some (H1.next + 1, 0)) m' (.op 1 0), (H1.push (.cells [])).push (.cells new)) := by
        have hr : ¬ ((0 + m') * 16 > room ∨ 0 + m' > room) := by omega
        unfold aappend
        simp only [List.length_cons, List.length_nil, Bool.false_eq_true, if_false, hsrc1, hone, Option.bind_eq_bind, Option.bind_some, hm, hr, cells_push_new, Nat.zero_add, Nat.le_zero_eq, Bool.not_true, Bool.false_or, Nat.succ_ne_zero, decide_false]
        simp only [Ahs.cut, Nat.zero_mul, Nat.le_refl, Nat.add_zero, if_true, List.take_zero, List.length_nil, Option.bind_some, List.all_nil, and_self, List.nil_append, Heap.next_push]
        rw [if_neg (by omega)]
      refine ⟨H1.next + 1, (H1.push (.cells [])).push (.cells new), ?_, by omega, Nat.le_refl _, .inr (by rw [← h]; exact Heap.get_push_new (H1.push (.cells [])) _), fun b hb => by rw [Heap.get_push_old _ _ _ (by rw [Heap.next_push]; omega), Heap.get_push_old _ _ _ (by omega)], by rw [Heap.next_push, Heap.next_push]; omega, by rw [Heap.next_push, Heap.next_push]; omega, by rw [Heap.next_push, Heap.next_push]; omega, by unfold cval; simp only [hm, if_false]; rfl, by unfold cval; simp only [hm, if_false]; rfl, rfl⟩
      refine run_eqn (disktw.F100_run disktw.a100 ?_)
      unfold disktw.F100
      refine ⟨_, rfl, _, rfl, fun e => by simp at e, fun _ => ⟨_, _, rfl, _, _, happ, ?_, rfl⟩⟩
      unfold cval
      simp only [hm, if_false]
  · simp at h

def bodyT : ACode := match disktw.f56.body with
  | .seq _ (.seq _ (.seq _ (.seq (.seq _ (.block _ (.loop b))) _))) => b
  | _ => .skip

/-- The pointer to the new disk. -/
abbrev ptrv (H0 : Heap) : AVal := .ptr (some (H0.next + 1, 0))

section
variable {RP : CallerP} {lim0 lim n nn : Nat}

theorem regT {R : Caller} {ops : List AOper} {s : PSt} {K : KP} {s1 : St} (h : execOps R lim ops ⟨s.tmps, s.H⟩ = some s1) (hk : K .norm ⟨s1.tmps, s1.H, s.it⟩) : execP R RP lim0 lim n (.region ops) s K := .inl ⟨s1, h, hk⟩

theorem step_upd {R : Caller} {ev : Opd → AVal} {H H' : Heap} {agg : Bool} {ls : List Leaf} {m k v : Opd} (h : amapUpdate lim H agg ls (ev m) (ev k) (ev v) = some H') : Ahs.step R lim ev H (.mapUpdate agg ls m k v) = some (und, H') := by
  simp only [Ahs.step, h, Option.map_some]

set_option maxHeartbeats 1000000 in
theorem twin_loop {H0 : Heap} {off : Bool} {fuse : Int} {vs : List (List UInt8 × AVal)} (hn : (vs.map (·.1)).Nodup) (hf : (vs.all fun x => (fblk H0 x.2).isSome) = true) {K : KP} {r : Nat} {mb : Option Nat} :
    ∀ (m : Nat) (left : List (List UInt8 × AVal)) (done : Done) (H : Heap) (T : List AVal) (cur : Option (AVal × AVal)), left.length < m → lim ≤ H0.next → TwInv H0 off fuse done H → (left ++ done.map fun d => (d.1, d.2.1)).Perm vs →
    (∃ t0 t1 t2 t4 t5 t6 t7 t8 t9 t10 t11 t12 t13 t14 t15 t16 t17 t18 t19 t20 t21 t22 t24 t25 t26 t27 t28 t29 t30 t31 t32 t33 t34 t35 t36 t37 t38 t39 : AVal, T = [t0, t1, t2, ptrv H0, t4, t5, t6, t7, t8, t9, t10, t11, t12, t13, t14, t15, t16, t17, t18, t19, t20, t21, t22, .itr r, t24, t25, t26, t27, t28, t29, t30, t31, t32, t33, t34, t35, t36, t37, t38, t39]) →
    (∀ T' H' it' done', (∃ t0 t1 t2 t4 t5 t6 t7 t8 t9 t10 t11 t12 t13 t14 t15 t16 t17 t18 t19 t20 t21 t22 t24 t25 t26 t27 t28 t29 t30 t31 t32 t33 t34 t35 t36 t37 t38 t39 : AVal, T' = [t0, t1, t2, ptrv H0, t4, t5, t6, t7, t8, t9, t10, t11, t12, t13, t14, t15, t16, t17, t18, t19, t20, t21, t22, .itr r, t24, t25, t26, t27, t28, t29, t30, t31, t32, t33, t34, t35, t36, t37, t38, t39]) → TwInv H0 off fuse done' H' → (done'.map fun d => (d.1, d.2.1)).Perm vs → K (.exit 0) ⟨T', H', it'⟩) →
    loopP (execP (Ahs.runT disktw.ap (nn + 1)) RP lim0 lim n bodyT) m ⟨T, H, some ⟨r, mb, encE strK left, cur⟩⟩ K
  | 0, left, done, H, T, cur, h1, _, _, _, _, _ => by omega
  | m + 1, left, done, H, T, cur, h1, hl, I, hp, ⟨t0, t1, t2, t4, t5, t6, t7, t8, t9, t10, t11, t12, t13, t14, t15, t16, t17, t18, t19, t20, t21, t22, t24, t25, t26, t27, t28, t29, t30, t31, t32, t33, t34, t35, t36, t37, t38, t39, hT⟩, hK => by
    subst hT
    unfold loopP
    show execP _ RP lim0 lim n (.seq (.region _) (.seq (.cond _ .skip (.exit 0)) (.block 1 _))) _ _
    refine execP_seq (execP_reg ?_)
    refine opsP_next rfl rfl rfl rfl ?_ ?_
    · intro hleft
      have hleft : left = [] := by simpa [encE] using hleft
      subst hleft
      refine opsP_v rfl rfl rfl rfl _ rfl rfl (opsP_nil ?_)
      refine execP_seq (execP_cond false rfl (fun e => by simp at e) fun _ => ?_)
      refine execP_exit ?_
      exact hK _ _ _ done ⟨_, _, _, _, _, _, _, _, _, _, _, _, _, _, _, _, _, _, _, _, _, _, _, _, _, _, _, _, _, _, _, _, _, _, _, _, _, _, rfl⟩ I (by simpa using hp)
    · intro k0 v0 rest0 hperm
      obtain ⟨zs, hz1, hz2⟩ := perm_lift (fun x : List UInt8 × AVal => (strK.enc x.1, x.2)) hperm left rfl
      cases zs with
      | nil => simp at hz2
      | cons z rest =>
      obtain ⟨k, v⟩ := z
      simp only [List.map_cons, List.cons.injEq, Prod.mk.injEq] at hz2
      obtain ⟨⟨rfl, rfl⟩, rfl⟩ := hz2
      have hp1 : ((k, v) :: (rest ++ done.map fun d => (d.1, d.2.1))).Perm vs := (hz1.append_right _).trans hp
      have hmem : (k, v) ∈ vs := hp1.mem_iff.1 (by simp)
      have hfb := List.all_eq_true.1 hf _ hmem
      obtain ⟨blk, hblk⟩ := Option.isSome_iff_exists.1 hfb
      have hlen : left.length = rest.length + 1 := by rw [← hz1.length_eq]; rfl
      -- what v is
      obtain ⟨s, a, b, c, rfl, hcb⟩ : ∃ s a b c, v = .agg [s, .int .i64 a, .bool b, .str c] ∧ cblk H0 s = some blk := by
        simp only at hblk
        unfold fblk at hblk
        split at hblk
        · exact ⟨_, _, _, _, rfl, hblk⟩
        · simp at hblk
      have hI1 := I.hi
      have hI2 := I.lo
      have hlH : lim ≤ H.next := by omega
      obtain ⟨p, H2, hrun, hp0, hp2, hpb, hold2, hnx, hnx2, hpn, hc1, hc2, hs1⟩ := clone_run (n := nn) (lim := lim) (H1 := H.push (.cells [s, .int .i64 a, .bool b, .str c])) hcb (fun b' hb' => by rw [Heap.get_push_old _ _ _ (by omega), I.old b' hb'])
      rw [Heap.next_push] at hp0 hp2 hold2 hnx hnx2
      have hcl2 : H2.cells H.next = some [s, .int .i64 a, .bool b, .str c] := Heap.cells_eq.2 (by rw [hold2 _ (by omega)]; exact Heap.get_push_new H _)
      -- the heap with the new file's cells
      obtain ⟨H3, hH3⟩ : ∃ H3, H3 = H2.set H.next (.cells [cval p s, .int .i64 a, .bool b, .str c]) := ⟨_, rfl⟩
      have h3n : H3.next = H2.next := by rw [hH3, Heap.next_set]
      have h3g : ∀ b', b' ≠ H.next → H3.get b' = H2.get b' := fun b' hb' => by rw [hH3]; exact Heap.get_set_other _ _ _ _ hb'
      have h3c : H3.cells H.next = some [cval p s, .int .i64 a, .bool b, .str c] := by rw [hH3]; exact cells_set_same (by omega)
      have h3old : ∀ b', b' < H.next → H3.get b' = H.get b' := fun b' hb' => by rw [h3g b' (by omega), hold2 b' (by omega), Heap.get_push_old _ _ _ (by omega)]
      have h3box : H3.cells (H0.next + 1) = some (bxO off fuse H0.next) := Heap.cells_eq.2 (by rw [h3old _ (by omega)]; exact I.box)
      obtain ⟨clk, hclk, hmap⟩ := I.map
      have h3map : H3.get H0.next = some (.map (encE strK (done.map fun d => (d.1, fval d.2.2 d.2.1))) clk) := by rw [h3old _ (by omega)]; exact hmap
      have hkn : k ∉ (done.map fun d => (d.1, fval d.2.2 d.2.1)).map (·.1) := by
        have h2 := (hp1.map (·.1)).nodup_iff.2 hn
        rw [List.map_cons, List.nodup_cons] at h2
        intro hk
        apply h2.1
        rw [List.map_append, List.mem_append]
        right
        rw [List.map_map] at hk ⊢
        exact hk
      obtain ⟨H4, hH4⟩ : ∃ H4, H4 = H3.set H0.next (.map (encE strK ((done.map fun d => (d.1, fval d.2.2 d.2.1)) ++ [(k, .agg [cval p s, .int .i64 a, .bool b, .str c])])) (clk.put false [.str] (.str k) false)) := ⟨_, rfl⟩
      have hupd : amapUpdate lim H3 false [.str] (.map (some H0.next)) (.str k) (.agg [cval p s, .int .i64 a, .bool b, .str c]) = some H4 := by
        have e1 := mput_enc (kk := strK) k (.agg [cval p s, .int .i64 a, .bool b, .str c]) (done.map fun d => (d.1, fval d.2.2 d.2.1))
        have e2 := any_enc (kk := strK) k (done.map fun d => (d.1, fval d.2.2 d.2.1))
        have e3 := keyOK_enc (kk := strK) k (done.map fun d => (d.1, fval d.2.2 d.2.1))
        replace e2 := e2.trans (by rw [decide_eq_false_iff_not]; exact hkn : _ = false)
        unfold vput at e1
        rw [if_neg hkn] at e1
        change mput false [.str] (.str k) _ _ = _ at e1
        change List.any _ (isKey false [.str] (.str k)) = _ at e2
        change keyOK false [.str] (.str k) _ = _ at e3
        unfold amapUpdate
        simp only [h3map, e1, e2, e3, and_true, hl, if_true, hH4]
      have h4n : H4.next = H2.next := by rw [hH4, Heap.next_set, h3n]
      have h4g : ∀ b', b' ≠ H0.next → H4.get b' = H3.get b' := fun b' hb' => by rw [hH4]; exact Heap.get_set_other _ _ _ _ hb'
      have I' : TwInv H0 off fuse (done ++ [(k, .agg [s, .int .i64 a, .bool b, .str c], p)]) H4 := by
        refine ⟨?_, ?_, ?_, ?_, ?_, ?_, ?_, ?_⟩
        · rw [h4n]; simp only [List.length_append, List.length_cons, List.length_nil]; omega
        · rw [h4n]; omega
        · intro b' hb'; rw [h4g b' (by omega), h3old b' (by omega), I.old b' hb']
        · refine ⟨clk.put false [.str] (.str k) false, ?_, ?_⟩
          · unfold Clk.put; simp only [Bool.false_eq_true, if_false, hclk, List.length_append, List.length_cons, List.length_nil]
          · rw [hH4, Heap.get_set_same _ _ _ (by rw [h3n]; omega), List.map_append]; rfl
        · rw [h4g _ (by omega)]; exact Heap.cells_eq.1 h3box
        · intro d hd
          rcases List.mem_append.1 hd with hd | hd
          · obtain ⟨x, hx1, hx2⟩ := I.each d hd
            refine ⟨x, hx1, hx2.imp_right fun hx2 => ?_⟩
            have hdp := I.pos d hd
            have hlt := Heap.get_lt hx2
            rw [h4g _ (by omega), h3old _ hlt]; exact hx2
          · simp only [List.mem_singleton] at hd
            subst hd
            refine ⟨blk, hcb, hpb.imp_right fun hpb => ?_⟩
            show H4.get p = _
            rw [h4g _ (by omega), h3g _ (by omega)]; exact hpb
        · intro d hd
          simp only [List.length_append, List.length_cons, List.length_nil]
          rcases List.mem_append.1 hd with hd | hd
          · have := I.pos d hd
            rw [h4n]; omega
          · simp only [List.mem_singleton] at hd
            subst hd
            rw [h4n]
            refine ⟨?_, hpn, ?_⟩
            · show _ ≤ p; omega
            · show p < _; omega
        · rw [List.map_append, List.nodup_append]
          refine ⟨I.apart, by simp, fun x hx y hy e => ?_⟩
          simp only [List.map_cons, List.map_nil, List.mem_singleton] at hy
          obtain ⟨d, hd, rfl⟩ := List.mem_map.1 hx
          have := I.pos d hd
          omega
      refine opsP_v rfl rfl rfl rfl _ rfl rfl (opsP_nil ?_)
      refine execP_seq (execP_cond true rfl (fun _ => ?_) fun e => by simp at e)
      refine execP_skip ?_
      refine execP_block (execP_seq (execP_reg ?_))
      refine opsP_entry rfl rfl rfl rfl rfl ?_
      refine opsP_v rfl rfl rfl rfl _ rfl rfl ?_
      refine opsP_v rfl rfl rfl rfl _ rfl rfl ?_
      refine opsP_1 rfl rfl rfl rfl rfl ?_
      refine opsP_v rfl rfl rfl rfl _ rfl rfl ?_
      refine opsP_st rfl rfl rfl rfl (astore_new (cs := [(.sl none 0 (.ex 0)), (.int .i64 0), (.bool false), (.str [])]) (x := .agg [s, .int .i64 a, .bool b, .str c]) hlH rfl rfl (by show (s.one && _) = true; rw [hs1]; rfl)) (opsP_nil ?_)
      refine execP_gen (fun T => ∃ t0 t1 t2 t6 t7 t8 t9 t10 t11 t12 t13 t14 t15 t16 t17 t18 t19 t20 t21 t22 t24 t25 t26 t27 t28 t29 t30 t31 t32 t33 t34 t35 t36 t37 t38 t39 : AVal, T = [t0, t1, t2, ptrv H0, .str k, .ptr (some (H.next, 0)), t6, t7, t8, t9, t10, t11, t12, t13, t14, t15, t16, t17, t18, t19, t20, t21, t22, .itr r, t24, t25, t26, t27, t28, t29, t30, t31, t32, t33, t34, t35, t36, t37, t38, t39]) (H.push (.cells [s, .int .i64 a, .bool b, .str c])) (some ⟨r, mb, encE strK rest, some (strK.enc k, .agg [s, .int .i64 a, .bool b, .str c])⟩) ⟨_, _, _, _, _, _, _, _, _, _, _, _, _, _, _, _, _, _, _, _, _, _, _, _, _, _, _, _, _, _, _, _, _, _, _, _, rfl⟩ rfl rfl ?_
      rintro T ⟨t0, t1, t2, t6, t7, t8, t9, t10, t11, t12, t13, t14, t15, t16, t17, t18, t19, t20, t21, t22, t24, t25, t26, t27, t28, t29, t30, t31, t32, t33, t34, t35, t36, t37, t38, t39, hT⟩
      subst hT
      refine execP_seq (execP_reg ?_)
      refine opsP_v rfl rfl rfl rfl _ rfl rfl ?_
      refine opsP_v rfl rfl rfl rfl _ rfl (aload_new1 H _ _) ?_
      refine opsP_calld rfl rfl rfl rfl hrun ?_
      refine opsP_v rfl rfl rfl rfl _ rfl rfl ?_
      refine opsP_st (H' := H3) rfl rfl rfl rfl (by rw [hH3]; exact astore_cell hcl2 hlH hc1 hc2 (by simp) rfl) (opsP_nil ?_)
      refine execP_gen (fun T => ∃ t0 t1 t2 t6 t7 t8 t9 t10 t11 t12 t13 t14 t15 t16 t17 t18 t19 t20 t21 t22 t24 t25 t26 t27 t28 t29 t30 t31 t32 t33 t34 t35 t36 t37 t38 t39 : AVal, T = [t0, t1, t2, ptrv H0, .str k, .ptr (some (H.next, 0)), t6, t7, t8, t9, t10, t11, t12, t13, t14, t15, t16, t17, t18, t19, t20, t21, t22, .itr r, t24, t25, t26, t27, t28, t29, t30, t31, t32, t33, t34, t35, t36, t37, t38, t39]) H3 (some ⟨r, mb, encE strK rest, some (strK.enc k, .agg [s, .int .i64 a, .bool b, .str c])⟩) ⟨_, _, _, _, _, _, _, _, _, _, _, _, _, _, _, _, _, _, _, _, _, _, _, _, _, _, _, _, _, _, _, _, _, _, _, _, rfl⟩ rfl rfl ?_
      rintro T ⟨t0, t1, t2, t6, t7, t8, t9, t10, t11, t12, t13, t14, t15, t16, t17, t18, t19, t20, t21, t22, t24, t25, t26, t27, t28, t29, t30, t31, t32, t33, t34, t35, t36, t37, t38, t39, hT⟩
      subst hT
      apply regT (s1 := ⟨_, H4⟩)
      · refine x_v rfl rfl rfl _ rfl rfl ?_
        refine x_v rfl rfl rfl _ rfl rfl ?_
        refine x_v rfl rfl rfl _ rfl rfl ?_
        refine x_1b rfl rfl rfl (v := .map (some H0.next)) (H' := H3) ?_ ?_
        · show val H3 (aload H3 none (.ptr (some (H0.next + 1, 0)))) = _
          rw [aload_one h3box]; rfl
        refine x_v rfl rfl rfl _ rfl rfl ?_
        refine x_1b rfl rfl rfl (v := .agg [cval p s, .int .i64 a, .bool b, .str c]) (H' := H3) ?_ ?_
        · show val H3 (aload H3 (some 4) (.ptr (some (H.next, 0)))) = _
          rw [aload_all (n := 4) h3c rfl]; rfl
        refine x_1 rfl rfl rfl (v := und) (H' := H4) (step_upd hupd) x_nil
      · refine twin_loop hn hf m rest (done ++ [(k, .agg [s, .int .i64 a, .bool b, .str c], p)]) H4 _ _ (by omega) hl I' ?_ ⟨_, _, _, _, _, _, _, _, _, _, _, _, _, _, _, _, _, _, _, _, _, _, _, _, _, _, _, _, _, _, _, _, _, _, _, _, _, _, rfl⟩ hK
        rw [List.map_append]
        refine List.Perm.trans ?_ hp1
        rw [← List.append_assoc]
        exact List.perm_append_singleton _ _
end

/-! Twin is the primitive. (Printed out of DxTw3.src by mktw.py.) -/

def tdp : List (Nat × AFunc) := [(56, disktw.f56)]
theorem tdpOK : DpOK Try.prog fun f => tdp.lookup f := dp_ok (l := tdp) ⟨⟨disktw.c56, by kernel_rfl⟩, trivial⟩

theorem tnone {H : Heap} {n lim bb m : Nat} {x y : AVal} (h : H.cells bb = some [.map (some m), x, y]) : Ahs.runT disktw.ap (n + 1) lim (.fn 79) [.ptr (some (bb, 0))] H = some (.bool false, H) := by
  refine run_eqn (disktw.F79_run disktw.a79 ?_)
  unfold disktw.F79
  (repeat (first | (with_reducible apply bindP_intro; (focus (first | with_reducible rfl | (simp only [walkR, get0, getS, Nat.zero_add, Nat.add_zero, Bool.not_true, Bool.not_false, decide_true, decide_false, reduceIte, and_self, Bool.false_eq_true, aload_one h, eqvO_mapS] <;> with_reducible rfl)))) | (with_reducible apply bind2_intro; (focus (first | with_reducible rfl | (simp only [walkR, get0, getS, Nat.zero_add, Nat.add_zero, Bool.not_true, Bool.not_false, decide_true, decide_false, reduceIte, and_self, Bool.false_eq_true, aload_one h, eqvO_mapS] <;> with_reducible rfl)))) | with_reducible apply cond_t | with_reducible apply cond_f))
  exact ⟨rfl, rfl⟩

theorem gTwin_some {lim : Nat} {args : List AVal} {H H' : Heap} {v : AVal} (h : gTwin lim args H = some (v, H')) : ∃ bb m off fuse clk vs, args = [.ptr (some (bb, 0))] ∧ H.cells bb = some [.map (some m), .bool off, .int .i64 fuse] ∧ H.get m = some (.map (encE strK vs) clk) ∧ (vs.map (·.1)).Nodup ∧ (vs.all fun x => (fblk H x.2).isSome) = true ∧
    v = .ptr (some (H.next + 1, 0)) ∧ H' = pushAll (twinBs H off fuse vs) H := by
  unfold gTwin at h
  split at h <;> try (simp at h; done)
  rename_i bb
  split at h <;> try (simp at h; done)
  rename_i m off fuse hc
  split at h <;> try (simp at h; done)
  rename_i es clk hg
  split at h <;> try (simp at h; done)
  rename_i vs hvs
  split at h <;> try (simp at h; done)
  rename_i hk
  simp only [Option.some.injEq, Prod.mk.injEq] at h
  rw [decS_enc hvs] at hg
  exact ⟨bb, m, off, fuse, clk, vs, rfl, hc, hg, hk.1, hk.2, h.1.symm, h.2.symm⟩

set_option maxHeartbeats 2000000 in
theorem twin_k : PrimOK Try.prog 56 gTwin := by
  refine PrimOK.drawnR Try.checked.mixed disktw.ap_ok tdpOK (f := 56) (af := disktw.f56) rfl ?_ ?_
  · intro lim args H v H' hl h
    obtain ⟨bb, m, off, fuse, clk, vs, _, _, _, _, _, _, rfl⟩ := gTwin_some h
    exact ⟨by rw [pushAll_next]; omega, fun b hb => pushAll_old _ (by omega)⟩
  · intro lim args H v H' hl h
    obtain ⟨bb, m, off, fuse, clk, vs, rfl, hc, hg, hn, hf, rfl, rfl⟩ := gTwin_some h
    have hbb := Heap.cells_lt hc
    have hm := Heap.get_lt hg
    obtain ⟨H2, hH2⟩ : ∃ H2, H2 = (H.push (.map [] ⟨0, []⟩)).push (.cells (bxO off fuse H.next)) := ⟨_, rfl⟩
    have h2old : ∀ b, b < H.next → H2.get b = H.get b := fun b hb => by rw [hH2, Heap.get_push_old _ _ _ (by rw [Heap.next_push]; omega), Heap.get_push_old _ _ _ (by omega)]
    have I0 : TwInv H off fuse [] H2 := by
      refine ⟨?_, ?_, h2old, ⟨⟨0, []⟩, rfl, ?_⟩, ?_, fun _ h => by simp at h, fun _ h => by simp at h, by simp⟩
      · rw [hH2, Heap.next_push, Heap.next_push]; simp
      · rw [hH2, Heap.next_push, Heap.next_push]; omega
      · rw [hH2, Heap.get_push_old _ _ _ (by rw [Heap.next_push]; omega)]
        exact Heap.get_push_new H _
      · rw [hH2]; exact Heap.get_push_new (H.push (.map [] ⟨0, []⟩)) _
    have hc1 : (H.push (.map [] ⟨0, []⟩)).cells bb = some [.map (some m), .bool off, .int .i64 fuse] := cells_push_old hc
    have hc2 : H2.cells bb = some [.map (some m), .bool off, .int .i64 fuse] := by rw [hH2]; exact cells_push_old hc1
    refine ⟨vs.length + 2, .inr ⟨56, disktw.f56, rfl, rfl, ?_⟩⟩
    refine execP_seq (execP_reg (opsP_v rfl rfl rfl rfl _ rfl rfl (opsP_nil ?_)))
    refine execP_seq (execP_seq (execP_reg ?_))
    refine opsP_v rfl rfl rfl rfl _ rfl rfl ?_
    refine opsP_calld rfl rfl rfl rfl (tnone (n := vs.length) hc) (opsP_nil ?_)
    refine execP_cond false rfl (fun e => by simp at e) fun _ => ?_
    refine execP_skip ?_
    refine execP_gen (fun T => ∃ t1 t2 t3 t4 t5 t6 t7 t8 t9 t10 t11 t12 t13 t14 t15 t16 t17 t18 t19 t20 t21 t22 t23 t24 t25 t26 t27 t28 t29 t30 t31 t32 t33 t34 t35 t36 t37 t38 t39 : AVal, T = [.ptr (some (bb, 0)), t1, t2, t3, t4, t5, t6, t7, t8, t9, t10, t11, t12, t13, t14, t15, t16, t17, t18, t19, t20, t21, t22, t23, t24, t25, t26, t27, t28, t29, t30, t31, t32, t33, t34, t35, t36, t37, t38, t39]) H none ⟨_, _, _, _, _, _, _, _, _, _, _, _, _, _, _, _, _, _, _, _, _, _, _, _, _, _, _, _, _, _, _, _, _, _, _, _, _, _, _, rfl⟩ rfl rfl ?_
    rintro T ⟨t1, t2, t3, t4, t5, t6, t7, t8, t9, t10, t11, t12, t13, t14, t15, t16, t17, t18, t19, t20, t21, t22, t23, t24, t25, t26, t27, t28, t29, t30, t31, t32, t33, t34, t35, t36, t37, t38, t39, hT⟩
    subst hT
    refine execP_seq ?_
    apply regT (s1 := ⟨_, H2⟩)
    · refine x_1b rfl rfl rfl (v := .map (some H.next)) (H' := H.push (.map [] ⟨0, []⟩)) rfl ?_
      refine x_v rfl rfl rfl _ rfl rfl ?_
      refine x_v rfl rfl rfl _ rfl rfl ?_
      refine x_v rfl rfl rfl _ rfl rfl ?_
      refine x_1b rfl rfl rfl (v := .bool off) (H' := H.push (.map [] ⟨0, []⟩)) ?_ ?_
      · show val _ (aload _ none (.ptr (some (bb, 1)))) = _
        rw [aload_one hc1]; rfl
      refine x_v rfl rfl rfl _ rfl rfl ?_
      refine x_v rfl rfl rfl _ rfl rfl ?_
      refine x_v rfl rfl rfl _ rfl rfl ?_
      refine x_1b rfl rfl rfl (v := .int .i64 fuse) (H' := H.push (.map [] ⟨0, []⟩)) ?_ ?_
      · show val _ (aload _ none (.ptr (some (bb, 2)))) = _
        rw [aload_one hc1]; rfl
      refine x_v rfl rfl rfl (v := .agg (bxO off fuse H.next)) _ rfl rfl ?_
      refine x_1 rfl rfl rfl (v := .ptr (some (H.next + 1, 0))) (H' := H2) (by rw [hH2]; rfl) ?_
      exact x_v rfl rfl rfl _ rfl rfl x_nil
    · refine execP_gen (fun T => ∃ t1 t2 t4 t5 t6 t7 t8 t9 t10 t11 t12 t13 t14 t15 t16 t17 t18 t19 t20 t21 t22 t23 t24 t25 t26 t27 t28 t29 t30 t31 t32 t33 t34 t35 t36 t37 t38 t39 : AVal, T = [.ptr (some (bb, 0)), t1, t2, ptrv H, t4, t5, t6, t7, t8, t9, t10, t11, t12, t13, t14, t15, t16, t17, t18, t19, t20, t21, t22, t23, t24, t25, t26, t27, t28, t29, t30, t31, t32, t33, t34, t35, t36, t37, t38, t39]) H2 none ⟨_, _, _, _, _, _, _, _, _, _, _, _, _, _, _, _, _, _, _, _, _, _, _, _, _, _, _, _, _, _, _, _, _, _, _, _, _, _, rfl⟩ rfl rfl ?_
      rintro T ⟨t1, t2, t4, t5, t6, t7, t8, t9, t10, t11, t12, t13, t14, t15, t16, t17, t18, t19, t20, t21, t22, t23, t24, t25, t26, t27, t28, t29, t30, t31, t32, t33, t34, t35, t36, t37, t38, t39, hT⟩
      subst hT
      refine execP_seq (execP_seq (execP_reg ?_))
      refine opsP_v rfl rfl rfl rfl _ rfl rfl ?_
      refine opsP_v rfl rfl rfl rfl _ rfl rfl ?_
      refine opsP_v rfl rfl rfl rfl _ rfl rfl ?_
      refine opsP_v (v := .map (some m)) rfl rfl rfl rfl _ rfl ?_ ?_
      · show aload H2 none (.ptr (some (bb, 0))) = some (.map (some m))
        rw [aload_one hc2]; rfl
      refine opsP_range rfl rfl rfl rfl (encE strK vs) (.inr ⟨m, clk, rfl, (h2old m hm).trans hg, hm⟩) fun r mb hmb => opsP_nil ?_
      refine execP_block ?_
      refine twin_loop (n := vs.length + 1) hn hf (vs.length + 1) vs [] H2 _ _ (by omega) (Nat.le_refl _) I0 (by simp) ⟨_, _, _, _, _, _, _, _, _, _, _, _, _, _, _, _, _, _, _, _, _, _, _, _, _, _, _, _, _, _, _, _, _, _, _, _, _, _, rfl⟩ ?_
      intro T' H1 it' done hT' I hp
      obtain ⟨t0, t1, t2, t4, t5, t6, t7, t8, t9, t10, t11, t12, t13, t14, t15, t16, t17, t18, t19, t20, t21, t22, t24, t25, t26, t27, t28, t29, t30, t31, t32, t33, t34, t35, t36, t37, t38, t39, hT⟩ := hT'
      subst hT
      refine execP_seq (execP_reg ?_)
      refine opsP_v rfl rfl rfl rfl _ rfl rfl ?_
      refine opsP_v rfl rfl rfl rfl _ rfl rfl (opsP_nil ?_)
      exact ⟨fun id => by simp, _, rfl, _, twin_ren hn hf I hp⟩
end Go.Proofs.Ytjflpnahjooffaa.disk
