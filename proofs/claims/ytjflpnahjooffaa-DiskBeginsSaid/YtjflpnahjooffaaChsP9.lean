/- What is known of a function's outcome, if it is so whatever is drawn, but for the row in which new blocks come. -/
import Derived.Test.YtjflpnahjooffaaChsP6
import Derived.Test.YtjflpnahjooffaaChsW3
set_option linter.unusedSimpArgs false
set_option linter.unusedVariables false
namespace Go.Ahs

/-- A value told of one heap, and of another one whose block b is the first one's block σ b. -/
def RV (σ : Nat → Nat) (x y : AVal) : Prop := ∀ (ρ : Mp) z, VRel ρ x z → VRel (fun b => ρ (σ b)) y z

def RVs (σ : Nat → Nat) (xs ys : List AVal) : Prop := xs.length = ys.length ∧ ∀ (i : Nat) x y, xs[i]? = some x → ys[i]? = some y → RV σ x y

theorem RVs.rel {σ : Nat → Nat} {xs ys : List AVal} (h : RVs σ xs ys) {ρ : Mp} {zs : List Value} (hr : LRel ρ xs zs) : LRel (fun b => ρ (σ b)) ys zs := by
  refine ⟨h.1.symm.trans hr.1, fun i v v' e e' => ?_⟩
  have hi : i < xs.length := by rw [h.1]; exact (List.getElem?_eq_some_iff.1 e).1
  have hx : xs[i]? = some xs[i] := List.getElem?_eq_getElem hi
  exact h.2 i _ v hx e ρ v' (hr.2 i _ v' hx e')

/-- A block, told anew. -/
inductive RB (σ : Nat → Nat) : Option Blk → Blk → Prop
  | cells {xs ys : List AVal} (h : RVs σ xs ys) : RB σ (some (.cells xs)) (.cells ys)
  | map {es es' : List (AVal × AVal)} {c : Clk} {n : Nat} (hc : c.n = n) (hn : (es'.map (·.1)).Nodup) (h : ∃ l : List (AVal × AVal), l.Perm es ∧ l.length = es'.length ∧ ∀ (i : Nat) (p q : AVal × AVal), l[i]? = some p → es'[i]? = some q → RV σ p.1 q.1 ∧ RV σ p.2 q.2) : RB σ (some (.map es c)) (.map es' ⟨n, []⟩)

structure Ren (H : Heap) (σ : Nat → Nat) (H1 H' : Heap) (v1 v : AVal) : Prop where
  next : H1.next ≤ H'.next
  here : H.next ≤ H1.next
  old : ∀ b, b < H.next → H'.get b = H.get b
  id : ∀ b, b < H.next ∨ H'.next ≤ b → σ b = b
  new : ∀ b, H.next ≤ b → b < H'.next → H.next ≤ σ b ∧ σ b < H'.next
  inj : ∀ b b', H.next ≤ b → H.next ≤ b' → b ≠ b' → (∃ x, H'.get b = some x ∧ x ≠ .dead) → (∃ x, H'.get b' = some x ∧ x ≠ .dead) → σ b ≠ σ b'
  blk : ∀ b x, H.next ≤ b → H'.get b = some x → x ≠ .dead → RB σ (H1.get (σ b)) x
  val : RV σ v1 v

theorem perm_lift {α β : Type} (f : α → β) : ∀ {l l' : List β}, l.Perm l' → ∀ zs : List α, zs.map f = l → ∃ zs' : List α, zs'.Perm zs ∧ zs'.map f = l' := by
  intro l l' h
  induction h with
  | nil => intro zs hz; exact ⟨zs, .refl _, hz⟩
  | cons x _ ih =>
    intro zs hz
    cases zs with
    | nil => simp at hz
    | cons z zs =>
      simp only [List.map_cons, List.cons.injEq] at hz
      obtain ⟨zs', h1, h2⟩ := ih zs hz.2
      exact ⟨z :: zs', h1.cons z, by simp [h2, hz.1]⟩
  | swap x y l =>
    intro zs hz
    match zs, hz with
    | z1 :: z2 :: zs, hz =>
      simp only [List.map_cons, List.cons.injEq] at hz
      exact ⟨z2 :: z1 :: zs, List.Perm.swap z1 z2 zs, by simp [hz.1, hz.2.1, hz.2.2]⟩
  | trans _ _ ih1 ih2 =>
    intro zs hz
    obtain ⟨z1, h1, h2⟩ := ih1 zs hz
    obtain ⟨z2, h3, h4⟩ := ih2 z1 h2
    exact ⟨z2, h3.trans h1, h4⟩

section
variable {P : Program} {n0 lim : Nat} {ρ : Mp} {H : Heap} {w : World}

theorem Post.ren {ρ1 : Mp} {H1 H' : Heap} {w' : World} {σ : Nat → Nat} {v1 v : AVal} (hr : Rel P n0 ρ H w) (hfr : ∀ b, H.next ≤ b → b < H'.next → ρ b = none) (h : Post P n0 H.next ρ H w ρ1 H1 w') (R : Ren H σ H1 H' v1 v) (h0 : n0 ≤ H.next) :
    Post P n0 H.next ρ H w (fun b => ρ1 (σ b)) H' w' := by
  -- an old block's map
  have oldρ : ∀ b, b < H.next → ρ1 b = ρ b := by
    intro b hb
    cases e : ρ b with
    | some L => exact h.ext b L e
    | none =>
      cases e' : ρ1 b with
      | none => rfl
      | some L => have := (h.new b L e e').1; omega
  have ext : Ext ρ (fun b => ρ1 (σ b)) := by
    intro b L e
    show ρ1 (σ b) = some L
    by_cases hb : b < H.next ∨ H'.next ≤ b
    · rw [R.id b hb]; exact h.ext b L e
    · rw [hfr b (by omega) (by omega)] at e; simp at e
  have newL : ∀ b L, ρ b = none → ρ1 (σ b) = some L → H.next ≤ b ∧ b < H'.next ∧ w.heap.size ≤ L.blk := by
    intro b L e e'
    by_cases hb : b < H.next ∨ H'.next ≤ b
    · rw [R.id b hb] at e'
      have := h.new b L e e'
      have hn := R.next
      omega
    · have hs := R.new b (by omega) (by omega)
      have hsn : ρ (σ b) = none := hfr _ hs.1 hs.2
      obtain ⟨g1, g2, g3⟩ := h.new _ L hsn e'
      refine ⟨by omega, by omega, ?_⟩
      rcases g3 with g3 | ⟨b0, L0, q1, q2, _⟩
      · exact g3
      · omega
  have heap : ∀ b L, ρ b = some L → w'.heap[L.blk]? = w.heap[L.blk]? := fun b L e => h.frame _ (hr.dom b L e) (fun b0 L0 g1 g2 _ => by omega)
  have oldb : ∀ b L x, ρ1 (σ b) = some L → H'.get b = some x → b < H.next → ρ b = some L ∧ H.get b = some x := by
    intro b L x e e' hb
    rw [R.id b (.inl hb), oldρ b hb] at e
    exact ⟨e, by rw [← R.old b hb]; exact e'⟩
  refine ⟨⟨?_, ?_, ?_, ?_, ?_⟩, ext, ?_, h.frame, h.size, fun b hb => R.old b hb, Nat.le_trans R.here R.next, h.rest⟩
  · intro b L cs e e'
    rcases Nat.lt_or_ge b H.next with hb | hb
    · obtain ⟨q1, q2⟩ := oldb b L _ e e' hb
      obtain ⟨c, ⟨t, fr, g1, g2, g3⟩, g4, g5⟩ := hr.row b L cs q1 q2
      exact ⟨c, ⟨t, fr, by rw [heap b L q1]; exact g1, g2, g3⟩, g4, g5.ext ext⟩
    · have hx := R.blk b _ hb e' (by simp)
      generalize hq : H1.get (σ b) = o at hx
      cases hx with
      | cells hv =>
        obtain ⟨c, ⟨t, fr, g1, g2, g3⟩, g4, g5⟩ := h.rel.row (σ b) L _ e hq
        refine ⟨c, ⟨t, fr, g1, g2, fun hn => g3 ?_⟩, by rw [← hv.1]; exact g4, ?_⟩
        · have := (R.new b hb (Heap.get_lt e')).1; omega
        · rw [← hv.1]; exact hv.rel g5
  · intro b L es cl e e'
    rcases Nat.lt_or_ge b H.next with hb | hb
    · obtain ⟨q1, q2⟩ := oldb b L _ e e' hb
      obtain ⟨es', g1, g2⟩ := hr.map b L es cl q1 q2
      exact ⟨es', by rw [heap b L q1]; exact g1, g2.ext ext⟩
    · have hx := R.blk b _ hb e' (by simp)
      generalize hq : H1.get (σ b) = o at hx
      cases hx with
      | map hc hn hl =>
        obtain ⟨es', g1, g2⟩ := h.rel.map (σ b) L _ _ e hq
        obtain ⟨l, l1, l2, l3⟩ := hl
        obtain ⟨l', p1, p2⟩ := g2.perm
        refine ⟨es', by rw [← hc]; exact g1, ⟨hn, ?_, g2.born, by rw [← hc]; exact g2.young, fun p hp => by simp at hp⟩⟩
        obtain ⟨zs, z1, z2⟩ := perm_lift (fun p : (AVal × AVal) × (AVal × AVal) => p.1) (l1.trans p1.symm) (l.zip es) (by rw [List.map_fst_zip]; omega)
        refine ⟨zs.map (·.2), ?_, ?_⟩
        · have := z1.map (fun p : (AVal × AVal) × (AVal × AVal) => p.2)
          rw [List.map_snd_zip (by omega)] at this
          exact this
        · have hzl : zs.length = l'.length := by rw [← z2]; simp
          refine ⟨by rw [List.length_map, hzl]; exact p2.1, fun i k v e e1 e2 => ?_⟩
          rw [List.getElem?_map] at e1
          cases hz : zs[i]? with
          | none => rw [hz] at e1; simp at e1
          | some z =>
            rw [hz] at e1
            obtain ⟨⟨k0, v0⟩, k1, v1'⟩ := z
            simp only [Option.map_some, Option.some.injEq, Prod.mk.injEq] at e1
            obtain ⟨rfl, rfl⟩ := e1
            have hmem : ((k0, v0), k1, v1') ∈ l.zip es := z1.mem_iff.1 (List.mem_of_getElem? hz)
            obtain ⟨j, hj, hje⟩ := List.getElem_of_mem hmem
            rw [List.length_zip] at hj
            rw [List.getElem_zip] at hje
            simp only [Prod.mk.injEq] at hje
            have hr3 := l3 j (k0, v0) (k1, v1') (by rw [List.getElem?_eq_getElem (by omega), hje.1]) (by rw [List.getElem?_eq_getElem (by omega), hje.2])
            have hl' : l'[i]? = some (k0, v0) := by rw [← z2, List.getElem?_map, hz]; rfl
            have hv := p2.2 i k0 v0 e hl' e2
            exact ⟨hr3.1 ρ1 _ hv.1, hr3.2 ρ1 _ hv.2⟩
  · intro b L r e e'
    rcases Nat.lt_or_ge b H.next with hb | hb
    · obtain ⟨q1, q2⟩ := oldb b L _ e e' hb
      obtain ⟨r', g1, g2⟩ := hr.loop b L r q1 q2
      exact ⟨r', by rw [heap b L q1]; exact g1, g2.ext ext⟩
    · have hx := R.blk b _ hb e' (by simp)
      generalize hq : H1.get (σ b) = o at hx
      cases hx
  · intro b L e
    exact h.rel.dom (σ b) L e
  · intro b b' L L' g1 g2 g3 g4 g5 g6 g7 g8
    obtain ⟨x, hx⟩ := Option.isSome_iff_exists.1 g5
    obtain ⟨x', hx'⟩ := Option.isSome_iff_exists.1 g6
    have dx : x ≠ .dead := fun e => g7 (by rw [hx, e])
    have dx' : x' ≠ .dead := fun e => g8 (by rw [hx', e])
    have live : ∀ b x, H.next ≤ b → H'.get b = some x → x ≠ .dead → (H1.get (σ b)).isSome ∧ H1.get (σ b) ≠ some .dead := by
      intro b x hb e d
      have hq := R.blk b x hb e d
      generalize H1.get (σ b) = o at hq
      cases hq <;> simp
    have nw : ∀ b L x, H.next ≤ b → H'.get b = some x → ρ1 (σ b) = some L → w.heap.size ≤ L.blk := fun b L x hb hx e => (newL b L (hfr b hb (Heap.get_lt hx)) e).2.2
    rcases Nat.lt_or_ge b H.next with hb | hb <;> rcases Nat.lt_or_ge b' H.next with hb' | hb'
    · obtain ⟨q1, q2⟩ := oldb b L x g3 hx hb
      obtain ⟨q3, q4⟩ := oldb b' L' x' g4 hx' hb'
      exact hr.excl b b' L L' g1 g2 q1 q3 (by rw [q2]; rfl) (by rw [q4]; rfl) (by rw [q2]; simpa using dx) (by rw [q4]; simpa using dx')
    · obtain ⟨q1, q2⟩ := oldb b L x g3 hx hb
      have := hr.dom b L q1
      have := nw b' L' x' hb' hx' g4
      omega
    · obtain ⟨q3, q4⟩ := oldb b' L' x' g4 hx' hb'
      have := hr.dom b' L' q3
      have := nw b L x hb hx g3
      omega
    · have l1 := live b x hb hx dx
      have l2 := live b' x' hb' hx' dx'
      have hs := (R.new b hb (Heap.get_lt hx)).1
      exact h.rel.excl (σ b) (σ b') L L' (by omega) (R.inj b b' hb hb' g2 ⟨x, hx, dx⟩ ⟨x', hx', dx'⟩) g3 g4 l1.1 l2.1 l1.2 l2.2
  · intro b L e e'
    obtain ⟨q1, q2, q3⟩ := newL b L e e'
    exact ⟨q1, q2, .inl q3⟩

/-- As PrimOK.drawn, of a function that makes new blocks alone: they may come in another row. -/
theorem PrimOK.drawnR {ap : FuncId → Option AFn} {dp : FuncId → Option AFunc} (hP : P.follows .mixedOrders = true) (hap : ∀ f af, ap f = some af → FnOK P f af) (hdp : DpOK P dp) {f : FuncId} {af : AFunc} (hf : dp f = some af) {g : Nat → List AVal → Heap → Option (AVal × Heap)}
    (keeps : ∀ lim args H v H', lim ≤ H.next → g lim args H = some (v, H') → H.next ≤ H'.next ∧ ∀ b, b < lim → H'.get b = H.get b)
    (h : ∀ lim args H v H', lim ≤ H.next → g lim args H = some (v, H') → ∃ n, runP ap dp n H.next H.next (.fn f) args H fun v1 H1 => ∃ σ, Ren H σ H1 H' v1 v) : PrimOK P f g where
  keeps := keeps
  fn := by
    obtain ⟨hcf, fn, c, hfn, hbody, hset⟩ := hdp f af hf
    unfold compF at hcf
    rw [hfn] at hcf
    simp only [hbody] at hcf
    split at hcf
    case h_2 => simp at hcf
    split at hcf <;> simp at hcf
    rename_i hname
    exact ⟨fn, hfn, by rw [hbody]; rfl, by simpa using hname⟩
  calls := fun n0 lim args H v H' hg ρ w args' hl hlim hfr hr ha => by
    obtain ⟨n, hn⟩ := h lim args H v H' hlim hg
    have hinv : InvP P H'.next n0 H.next H.next w.heap.size ρ H w := ⟨hr, Nat.le_trans hl hlim, Nat.le_refl _, Nat.le_refl _, hfr, fun b L g1 g2 _ => by omega, fun b L _ e => hr.dom b L e, Nat.le_refl _⟩
    have hc := (runP_sim hP hap hdp n H.next H.next (.fn f) args H _ hn f rfl).2 H'.next n0 w.heap.size ρ w args' (fun v1 H1 _ e => by obtain ⟨σ, R⟩ := e; exact R.next) hinv ha
    refine hc.mono ?_
    rintro e w' ⟨v', ρ', v1, H1, rfl, ⟨σ, R⟩, hv, hp, _⟩
    exact ⟨v', _, rfl, R.val ρ' v' hv, (hp.ren hr hfr R (Nat.le_trans hl hlim)).weaken hlim⟩

theorem x_1b {R : Caller} {lim : Nat} {o : AOper} {os : List AOper} {s : St} {X : Option St} {v : AVal} {H' : Heap} (hg : o.guard = none) (ha : o.apart = []) (hb : o.bar = true) (h : step R s.H.next (St.ev s.tmps) s.H o.op = some (v, H')) (hk : execOps R lim os ⟨putT s.tmps o.dst v, H'⟩ = X) : execOps R lim (o :: os) s = X := by
  have hc : o.clear s.tmps = true := by unfold AOper.clear; rw [ha]
  have hw : wantedA s.tmps o.guard = true := by rw [hg]; rfl
  unfold execOps
  have : execOp R lim o s = some ⟨putT s.tmps o.dst v, H'⟩ := by
    unfold execOp
    simp only [hw, if_true, hc, Bool.not_true, Bool.false_eq_true, if_false, hb, h]
  rw [this]
  exact hk

end
end Go.Ahs
