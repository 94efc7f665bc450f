/- Slices that have been made since: owned, and of new blocks alone. -/
import Derived.Test.YtpefhojmfcenfaaBhsW3
set_option linter.unusedSimpArgs false
set_option linter.unusedVariables false
namespace Go.Ahs

structure Fresh (H0 H : Heap) (sz : Nat) (v : AVal) (xs : List (List AVal)) : Prop where
  own : ∃ bv, Own H sz v xs bv
  keeps : Keeps2 H0 H
  new : ∀ c, slBlk v = some c → H0.next ≤ c

section
variable {H0 H : Heap} {sz : Nat} {v : AVal} {xs : List (List AVal)}

theorem Fresh.nil (H : Heap) (sz : Nat) : Fresh H H sz (.sl none 0 (.ex 0)) [] :=
  ⟨⟨0, fun _ h => by simp at h, .inl ⟨rfl, rfl⟩⟩, .refl _, fun c h => by simp [slBlk] at h⟩

theorem Fresh.sl (h : Fresh H0 H sz v xs) : Sl H sz v xs := by
  obtain ⟨bv, ho⟩ := h.own
  exact ho.sl

theorem Fresh.keep {H' : Heap} (h : Fresh H0 H sz v xs) (hk : Keeps2 H H') : Fresh H0 H' sz v xs := by
  obtain ⟨bv, ho⟩ := h.own
  exact ⟨⟨bv, ho.frame (S := fun _ => False) (.of hk) (fun e => e)⟩, h.keeps.trans hk, h.new⟩

theorem Fresh.older {H1 : Heap} (h : Fresh H0 H sz v xs) (hk : Keeps2 H1 H0) : Fresh H1 H sz v xs :=
  ⟨h.own, hk.trans h.keeps, fun c hc => Nat.le_trans hk.next (h.new c hc)⟩

theorem Fresh.frame {S : Nat → Prop} {H' : Heap} (h : Fresh H0 H sz v xs) (hf : Fram S H H') (hs : ∀ c, S c → H0.next ≤ c) (hn : ∀ c, slBlk v = some c → ¬ S c) : Fresh H0 H' sz v xs := by
  obtain ⟨bv, ho⟩ := h.own
  have hk : Keeps2 H0 H' := Fram.keeps h.keeps hf (fun c hc e => by have := hs c e; omega)
  rcases ho.2 with ⟨rfl, h3⟩ | ⟨o, cs, h3, h4, h5, h6⟩ | ⟨h3, h4⟩
  · exact ⟨⟨bv, ho.1, .inl ⟨rfl, h3⟩⟩, hk, h.new⟩
  · exact ⟨⟨bv, ho.frame hf (hn _ (by rw [h3]; rfl))⟩, hk, h.new⟩
  · exact ⟨⟨bv, ho.frame hf (hn _ (by rw [h3]; rfl))⟩, hk, h.new⟩

/-- Something is appended. -/
theorem Fresh.append {lim : Nat} {x : AVal} {ys : List (List AVal)} {bytes : Nat} {zero : List AVal} (h : Fresh H0 H sz v xs) (hz : zero.length = sz) (hs : 0 < sz) (hsrc : source H sz x = some (ys.length, ys.flatten))
    (hy : ∀ y ∈ ys, y.length = sz ∧ y.all (·.one) = true) (hl : lim ≤ H0.next) (hroom : (xs.length + ys.length) * bytes ≤ room) (hroom2 : xs.length + ys.length ≤ room) :
    ∃ v' H', aappend lim H zero bytes false v x = some (v', H') ∧ Fresh H0 H' sz v' (xs ++ ys) := by
  obtain ⟨bv, ho⟩ := h.own
  obtain ⟨v', H', bv', e1, e2, e3, e4, e5⟩ := own_append (lim := lim) (bytes := bytes) ho hz hs hsrc hy hroom hroom2 (fun hb => Nat.le_trans hl (h.new _ hb))
  have hk : Keeps2 H0 H' := Fram.keeps h.keeps e3 (fun c hc e => by have := h.new c e; omega)
  refine ⟨v', H', e1, ⟨bv', e2⟩, hk, fun c hc => ?_⟩
  have hcb := e2.blk c hc
  subst hcb
  rcases e4 with ⟨rfl, hh⟩ | e4
  · rcases hh with rfl | hh
    · rcases ho.2 with ⟨rfl, h3⟩ | ⟨o, cs, h3, h4, h5, h6⟩ | ⟨h3, h4⟩
      · exfalso
        rw [aappend_eq (m := 0) (new := []) (by rw [hz]; exact hsrc) rfl (by omega)] at e1
        simp at e1
        obtain ⟨rfl, _⟩ := e1
        simp [slBlk] at hc
      · exact h.new _ (by rw [h3]; rfl)
      · exact h.new _ (by rw [h3]; rfl)
    · exact hh.elim
  · exact Nat.le_trans h.keeps.next e4

theorem sl_one {H : Heap} {x : List AVal} (hx : x.length = sz) : Sl (H.push (.cells x)) sz (.sl (some (H.next, 0)) 1 (.ex 1)) [x] :=
  ⟨.inr ⟨H.next, 0, .ex 1, x, rfl, Nat.le_refl 1, cells_push_new H x, by simp; omega, by simp [← hx]⟩, fun y hy => by simp at hy; rw [hy]; exact hx⟩

/-- One more. -/
theorem Fresh.push1 {lim bytes : Nat} {x zero : List AVal} (h : Fresh H0 H sz v xs) (hz : zero.length = sz) (hs : 0 < sz) (hx : x.length = sz) (h1 : x.all (·.one) = true) (hl : lim ≤ H0.next)
    (hroom : (xs.length + 1) * bytes ≤ room) (hroom2 : xs.length + 1 ≤ room) :
    ∃ v' H', aappend lim (H.push (.cells x)) zero bytes false v (.sl (some (H.next, 0)) 1 (.ex 1)) = some (v', H') ∧ Fresh H0 H' sz v' (xs ++ [x]) := by
  have h' := h.keep (.push H (.cells x))
  exact h'.append hz hs (Sl.source (sl_one hx)) (fun y hy => by simp at hy; rw [hy]; exact ⟨hx, h1⟩) hl (by simpa using hroom) (by simpa using hroom2)

/-- A cell is written. -/
theorem Fresh.store {lim : Nat} (h : Fresh H0 H sz v xs) (hl : lim ≤ H0.next) {k : Nat} {x : List AVal} (hx : xs[k]? = some x) {f : Nat} (hf : f < sz) {y : AVal} (hy : y.cells = [y]) (h1 : y.one = true) :
    ∃ H', astore lim H 1 (slot v (k * sz + f)) y = some H' ∧ Fresh H0 H' sz v (xs.set k (x.set f y)) := by
  obtain ⟨bv, ho⟩ := h.own
  obtain ⟨H', e1, e2, e3, e4⟩ := own_store (lim := lim) ho (fun hb => Nat.le_trans hl (h.new _ hb)) hx hf hy h1
  exact ⟨H', e1, ⟨bv, e2⟩, Fram.keeps h.keeps e3 (fun c hc e => by have := h.new c e; omega), h.new⟩

end
end Go.Ahs
