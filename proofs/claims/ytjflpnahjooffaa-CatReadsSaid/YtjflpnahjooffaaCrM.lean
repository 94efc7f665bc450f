/- What the catalogue's functions come to: contracts. First part. -/
import Derived.Test.YtjflpnahjooffaaCxPr
import Derived.Test.YtjflpnahjooffaaCxW0
import Derived.Test.YtjflpnahjooffaaChsXM
import Derived.Test.YtjflpnahjooffaaChsX2
import Derived.Test.YtjflpnahjooffaaNmM
set_option maxRecDepth 100000
set_option linter.unusedVariables false
set_option linter.unusedSimpArgs false
namespace Go.Proofs.Ytjflpnahjooffaa.cat
open Go.Ahs
structure Quo where
 k : Int
 b : Int
 r : Int
 u : Int
 deriving DecidableEq
def encQ (q : Quo) : List AVal := [.int .i64 q.k, .int .i64 q.b, .int .i64 q.r, .int .i64 q.u]
def noQ : Quo := ⟨0, 0, 0, 0⟩
structure PCat where
 q0 : Quo
 q1 : Quo
 q2 : Quo
 q3 : Quo
 fs : List (Tok × Nat × Nat)
def PCat.q (C : PCat) : Nat → Quo
 | 0 => C.q0
 | 1 => C.q1
 | 2 => C.q2
 | _ => C.q3
def newC : PCat := ⟨noQ, noQ, noQ, noQ, []⟩
def encP (v : AVal) (a : Nat × Nat) : Prop := v = .agg [.int .u8 (a.1 : Int), .int .u8 (a.2 : Int)]
def catCells (C : PCat) (m : Nat) : List AVal :=
 [.int .i64 C.q0.k, .int .i64 C.q0.b, .int .i64 C.q0.r, .int .i64 C.q0.u, .int .i64 C.q1.k, .int .i64 C.q1.b, .int .i64 C.q1.r, .int .i64 C.q1.u,
  .int .i64 C.q2.k, .int .i64 C.q2.b, .int .i64 C.q2.r, .int .i64 C.q2.u, .int .i64 C.q3.k, .int .i64 C.q3.b, .int .i64 C.q3.r, .int .i64 C.q3.u, .map (some m)]
structure CatAt (H : Heap) (b m : Nat) (C : PCat) : Prop where
 cells : H.cells b = some (catCells C m)
 map : MapAt tokK H m encP C.fs
def rightQ (q : Quo) : Bool := (decide (1 ≤ q.k) && decide (q.k ≤ 16)) && (decide (1 ≤ q.b) && decide (q.b ≤ 512)) && (decide (0 ≤ q.r) && decide (q.r ≤ 100)) && (decide (1 ≤ q.u) && decide (q.u ≤ 100))
section
variable {H : Heap} {b m : Nat} {C : PCat}
theorem cnone_c {n lim : Nat} (h : CatAt H b m C) : Ahs.runT ap (n + 1) lim (.fn 64) [.ptr (some (b, 0))] H = some (.bool false, H) := by
 refine run_eqn (F64_run a64 ?_)
 unfold F64
 (repeat (with_reducible first | ((first | apply bindP_intro | apply bind2_intro); (focus (first | rfl | (simp only [walkS, reduceIte, aload_one h.cells, catCells, eqvO_mapS] <;> rfl)))) | apply cond_t | apply cond_f))
 exact ⟨rfl, rfl⟩
theorem idx_slot {b s : Nat} (k : IntKind) (hs : s < 4) : aindexAddr (some 4) 4 (.ptr (some (b, 0))) (.int k (s : Nat)) = some (.ptr (some (b, s * 4))) := by
 have hj : natOf (.int k (s : Int)) = some s := natOf_nat _ s
 unfold aindexAddr
 simp only [hj]
 rw [if_pos hs]
 simp
theorem slot_load (h : CatAt H b m C) {s : Nat} (hs : s < 4) : aload H none (.ptr (some (b, s * 4))) = some (.int .i64 (C.q s).k) ∧ aload H (some 4) (.ptr (some (b, s * 4))) = some (.agg (encQ (C.q s))) := by
 rw [aload_one h.cells, aload_agg h.cells]
 match s, hs with
 | 0, _ => exact ⟨rfl, rfl⟩
 | 1, _ => exact ⟨rfl, rfl⟩
 | 2, _ => exact ⟨rfl, rfl⟩
 | 3, _ => exact ⟨rfl, rfl⟩
theorem there_c {n lim s : Nat} (h : CatAt H b m C) (hs : s < 4) : Ahs.runT ap (n + 1) lim (.fn 65) [.ptr (some (b, 0)), .int .u8 (s : Nat)] H = some (.bool (decide (0 < (C.q s).k)), H) := by
 refine run_eqn (F65_run a65 ?_)
 unfold F65
 (repeat (with_reducible first | ((first | apply bindP_intro | apply bind2_intro); (focus (first | rfl | (simp only [walkS, reduceIte, idx_slot _ hs, (slot_load h hs).1] <;> rfl)))) | apply cond_t | apply cond_f))
 exact ⟨rfl, rfl⟩
theorem right1_c {n lim : Nat} (x lo hi : Int) : Ahs.runT ap (n + 1) lim (.fn 78) [.int .i64 x, .int .i64 lo, .int .i64 hi] H = some (.bool (decide (lo ≤ x) && decide (x ≤ hi)), H) := by
 refine run_eqn (F78_run a78 ?_)
 unfold F78
 cases hd : decide (lo ≤ x) with
 | true => (repeat (with_reducible first | ((first | apply bindP_intro | apply bind2_intro); (focus (first | rfl | (simp only [walkS, reduceIte, hd] <;> rfl)))) | apply cond_t | apply cond_f)); exact ⟨rfl, rfl⟩
 | false => (repeat (with_reducible first | ((first | apply bindP_intro | apply bind2_intro); (focus (first | rfl | (simp only [walkS, reduceIte, hd] <;> rfl)))) | apply cond_t | apply cond_f)); exact ⟨rfl, rfl⟩
theorem right_c {n lim : Nat} (q : Quo) : ∃ v H', Ahs.runT ap (n + 2) lim (.fn 34) [.agg (encQ q)] H = some (v, H') ∧ v = .bool (rightQ q) ∧ Keeps2 H H' := by
 refine F34_run a34 ?_
 unfold F34 rightQ
 have hb : ((encQ q).all fun v => v.one) = true := rfl
 have hc : (AVal.agg (encQ q)).cells = encQ q := rfl
 have l : ∀ o, aload (H.push (.cells (encQ q))) none (.ptr (some (H.next, o))) = (encQ q)[o]? := fun o => aload_new1 _ _ _
 have l0 := l 0
 have l1 := l 1
 have l2 := l 2
 have l3 := l 3
 have r1 := fun x lo hi => right1_c (H := H.push (.cells (encQ q))) (n := n) (lim := lim) x lo hi
 have hcv : ∀ (x lo hi : Int), callvO (Ahs.runT ap (n + 1)) lim (.fn 78 [] []) [.int .i64 x, .int .i64 lo, .int .i64 hi] (H.push (.cells (encQ q))) = some (.bool (decide (lo ≤ x) && decide (x ≤ hi)), H.push (.cells (encQ q))) := r1
 simp only [encQ, List.getElem?_cons_zero, List.getElem?_cons_succ] at l0 l1 l2 l3 hb hc hcv
 cases h1 : (decide (1 ≤ q.k) && decide (q.k ≤ 16)) with
 | false =>
  have c1 := hcv q.k 1 16
  rw [h1] at c1
  (repeat (with_reducible first | ((first | apply bindP_intro | apply bind2_intro); (focus (first | rfl | (simp only [walkS, reduceIte, encQ, hc, hb, l0, c1] <;> rfl)))) | apply cond_t | apply cond_f))
  exact ⟨rfl, .push _ _⟩
 | true =>
  have c1 := hcv q.k 1 16
  rw [h1] at c1
  cases h2 : (decide (1 ≤ q.b) && decide (q.b ≤ 512)) with
  | false =>
   have c2 := hcv q.b 1 512
   rw [h2] at c2
   (repeat (with_reducible first | ((first | apply bindP_intro | apply bind2_intro); (focus (first | rfl | (simp only [walkS, reduceIte, encQ, hc, hb, l0, c1, l1, c2] <;> rfl)))) | apply cond_t | apply cond_f))
   exact ⟨rfl, .push _ _⟩
  | true =>
   have c2 := hcv q.b 1 512
   rw [h2] at c2
   cases h3 : (decide (0 ≤ q.r) && decide (q.r ≤ 100)) with
   | false =>
    have c3 := hcv q.r 0 100
    rw [h3] at c3
    (repeat (with_reducible first | ((first | apply bindP_intro | apply bind2_intro); (focus (first | rfl | (simp only [walkS, reduceIte, encQ, hc, hb, l0, c1, l1, c2, l2, c3] <;> rfl)))) | apply cond_t | apply cond_f))
    exact ⟨rfl, .push _ _⟩
   | true =>
    have c3 := hcv q.r 0 100
    rw [h3] at c3
    have c4 := hcv q.u 1 100
    (repeat (with_reducible first | ((first | apply bindP_intro | apply bind2_intro); (focus (first | rfl | (simp only [walkS, reduceIte, encQ, hc, hb, l0, c1, l1, c2, l2, c3, l3, c4] <;> rfl)))) | apply cond_t | apply cond_f))
    exact ⟨by simp, .push _ _⟩
end
abbrev u8x8 : List Leaf := [(.int .u8), (.int .u8), (.int .u8), (.int .u8), (.int .u8), (.int .u8), (.int .u8), (.int .u8)]
def whoC (C : PCat) (t : Tok) : Nat × Nat × Bool := match lk C.fs t with
 | some a => (a.1, a.2, true)
 | none => (0, 0, false)
section
variable {H : Heap} {b m : Nat} {C : PCat}
theorem CatAt.keep {H' : Heap} (h : CatAt H b m C) (hk : Keeps2 H H') : CatAt H' b m C :=
 ⟨hk.cells h.cells, h.map.mono (hk.get m h.map.lt) fun _ _ _ _ h => h⟩
theorem map_load (h : CatAt H b m C) : aload H none (.ptr (some (b, 16))) = some (.map (some m)) := by rw [aload_one h.cells]; rfl
theorem look_tok (h : CatAt H b m C) (t : Tok) : alookup H true u8x8 (.agg [(.int .u8 0), (.int .u8 0)]) true (.map (some m)) (.agg (encB t.1)) = some (.tup [.agg [.int .u8 ((whoC C t).1 : Int), .int .u8 ((whoC C t).2.1 : Int)], .bool (whoC C t).2.2]) := by
 unfold whoC
 cases hl : lk C.fs t with
 | none => exact h.map.lookup_none hl _ true
 | some a =>
  obtain ⟨v, hv, hq⟩ := h.map.lookup_some hl (.agg [(.int .u8 0), (.int .u8 0)])
  have := hq true
  unfold encP at hv
  rw [hv] at this
  exact this
theorem tok_cells (t : Tok) : (AVal.agg (encB t.1)).cells = encB t.1 := rfl
theorem tok_load (H : Heap) (t : Tok) : aload (H.push (.cells (encB t.1))) (some 8) (.ptr (some (H.next, 0))) = some (.agg (encB t.1)) := aload_newA H (by rw [encB_len]; exact t.2)
theorem who_c {n lim : Nat} (h : CatAt H b m C) (hlim : lim ≤ H.next) (t : Tok) : ∃ v H', Ahs.runT ap (n + 2) lim (.fn 28) [.ptr (some (b, 0)), .agg (encB t.1)] H = some (v, H') ∧ v = .tup [.int .u8 ((whoC C t).1 : Int), .int .u8 ((whoC C t).2.1 : Int), .bool (whoC C t).2.2] ∧ Keeps2 H H' := by
 refine F28_run a28 ?_
 unfold F28
 have k1 : Keeps2 H (H.push (.cells (encB t.1))) := .push _ _
 have h1 := h.keep k1
 have n1 : (H.push (.cells (encB t.1))).next = H.next + 1 := Heap.next_push _ _
 have hst : astore lim ((H.push (.cells (encB t.1))).push (.cells [(.int .u8 0), (.int .u8 0)])) 2 (.ptr (some ((H.push (.cells (encB t.1))).next, 0))) (.agg [.int .u8 ((whoC C t).1 : Int), .int .u8 ((whoC C t).2.1 : Int)]) = some ((H.push (.cells (encB t.1))).push (.cells [.int .u8 ((whoC C t).1 : Int), .int .u8 ((whoC C t).2.1 : Int)])) := astore_new (cs := [(.int .u8 0), (.int .u8 0)]) (x := .agg [.int .u8 ((whoC C t).1 : Int), .int .u8 ((whoC C t).2.1 : Int)]) (by omega) rfl rfl rfl
 have l0 : ∀ o, aload ((H.push (.cells (encB t.1))).push (.cells [.int .u8 ((whoC C t).1 : Int), .int .u8 ((whoC C t).2.1 : Int)])) none (.ptr (some ((H.push (.cells (encB t.1))).next, o))) = ([.int .u8 ((whoC C t).1 : Int), .int .u8 ((whoC C t).2.1 : Int)] : List AVal)[o]? := fun o => aload_new1 _ _ _
 (repeat (with_reducible first | ((first | apply bindP_intro | apply bind2_intro); (focus (first | rfl | (simp only [walkS, reduceIte, tok_cells, encB_one, cnone_c h1, map_load h1, tok_load H t, look_tok h1 t, hst, l0] <;> rfl)))) | apply cond_t | apply cond_f))
 exact ⟨rfl, k1.trans (.push _ _)⟩
def quotaC (C : PCat) (s : Nat) : Quo × Bool := if s < 4 ∧ 0 < (C.q s).k then (C.q s, true) else (noQ, false)
end
def delT (t : Tok) (fs : List (Tok × Nat × Nat)) : List (Tok × Nat × Nat) := fs.filter fun x => !decide (x.1 = t)
theorem delT_del {fs : List (Tok × Nat × Nat)} (h : (fs.map (·.1)).Nodup) (t : Tok) : DelF fs t (delT t fs) := by
 refine ⟨(List.Pairwise.sublist (List.Sublist.map _ List.filter_sublist) h), fun k a => ?_⟩
 unfold delT
 simp [List.mem_filter, and_comm]
def dropC (C : PCat) (t : Tok) : Int × PCat := if (whoC C t).2.2 = true then (0, { C with fs := delT t C.fs }) else (1, C)
section
variable {H : Heap} {b m : Nat} {C : PCat}
theorem CatAt.ne (h : CatAt H b m C) : b ≠ m := by
 intro e
 obtain ⟨vs, clk, h1, _⟩ := h.map.ex
 have := Heap.cells_eq.1 h.cells
 rw [e, h1] at this
 simp at this
theorem CatAt.frame {S : Nat → Prop} {H' : Heap} (h : CatAt H b m C) (hf : Fram S H H') (hb : ¬ S b) (hm : ¬ S m) : CatAt H' b m C :=
 ⟨hf.cells h.cells hb, h.map.mono (hf.get m h.map.lt hm) fun _ _ _ _ h => h⟩
def cft (b m c : Nat) : Prop := c = b ∨ c = m
end
section
variable {H : Heap} {b m : Nat} {C : PCat}
theorem cnew_c {n lim : Nat} : ∃ b m H', Ahs.runT ap (n + 1) lim (.fn 20) [] H = some (.ptr (some (b, 0)), H') ∧ CatAt H' b m newC ∧ Keeps2 H H' ∧ H.next ≤ b ∧ H.next ≤ m ∧ b < H'.next ∧ m < H'.next := by
 have hb : buildO z39dd08 [(16, 1, .map (some H.next))] = some (.agg (catCells newC H.next)) := rfl
 have ho : ((catCells newC H.next).all fun v => v.one) = true := rfl
 have hc : (AVal.agg (catCells newC H.next)).cells = catCells newC H.next := rfl
 refine ⟨H.next + 1, H.next, (H.push (.map [] ⟨0, []⟩)).push (.cells (catCells newC H.next)), ?_, ⟨?_, ?_⟩, (Keeps2.push _ _).trans (.push _ _), by omega, Nat.le_refl _, by rw [Heap.next_push, Heap.next_push]; omega, by rw [Heap.next_push, Heap.next_push]; omega⟩
 ·refine run_eqn (F20_run a20 ?_)
  unfold F20
  (repeat (with_reducible first | ((first | apply bindP_intro | apply bind2_intro); (focus (first | rfl | (simp only [walkS, reduceIte, hintOK, hb, hc, ho] <;> rfl)))) | apply cond_t | apply cond_f))
  exact ⟨rfl, rfl⟩
 ·exact cells_push_new (H.push (.map [] ⟨0, []⟩)) _
 ·refine ⟨⟨[], ⟨0, []⟩, ?_, .refl _, fun _ _ _ h => by simp at h⟩, List.Pairwise.nil⟩
  rw [Heap.get_push_old _ _ _ (by rw [Heap.next_push]; omega)]
  exact Heap.get_push_new H _
def opTok : Tok := ⟨[111, 112, 101, 114, 97, 116, 111, 114], rfl⟩
theorem op_c {n lim : Nat} (hlim : lim ≤ H.next) : ∃ v H', Ahs.runT ap (n + 1) lim (.fn 25) [] H = some (v, H') ∧ v = .agg (encB opTok.1) ∧ Keeps2 H H' := by
 refine F25_run a25 ?_
 unfold F25
 have n1 : (H.push (.cells zdff0c5)).next = H.next + 1 := Heap.next_push _ _
 have k1 : Keeps2 H (H.push (.cells zdff0c5)) := .push _ _
 have hsl : ∀ b, asliceArr 8 1 (.ptr (some (b, 0))) none none none = some (.sl (some (b, 0)) 8 (.ex 8)) := fun b => rfl
 generalize hG : H.push (.cells zdff0c5) = G at *
 have hcp : acopy lim (G.push (.cells zdff0c5)) 1 (.sl (some (G.next, 0)) 8 (.ex 8)) (.str [111, 112, 101, 114, 97, 116, 111, 114]) = some (.int .i64 8, G.push (.cells (encB opTok.1))) := by
  unfold acopy
  simp only [source, if_true, Option.bind_eq_bind, Option.bind_some, List.length_cons, List.length_nil, cells_push_new]
  rw [if_neg (by decide), if_pos (by exact ⟨by omega, by decide, rfl⟩), set_push]
  rfl
 have hst : astore lim (G.push (.cells (encB opTok.1))) 8 (.ptr (some (H.next, 0))) (.agg (encB opTok.1)) = some ((G.push (.cells (encB opTok.1))).set H.next (.cells (encB opTok.1))) := by
  have hc : (G.push (.cells (encB opTok.1))).cells H.next = some zdff0c5 := cells_push_old (by rw [← hG]; exact cells_push_new H _)
  exact astore_at (n := 8) (o := 0) (x := .agg (encB opTok.1)) hc hlim rfl (by decide) rfl
 have hld : aload ((G.push (.cells (encB opTok.1))).set H.next (.cells (encB opTok.1))) (some 8) (.ptr (some (H.next, 0))) = some (.agg (encB opTok.1)) := aload_all (cells_set_same (by rw [Heap.next_push]; omega)) rfl
 (repeat (with_reducible first | ((first | apply bindP_intro | apply bind2_intro); (focus (first | rfl | (simp only [walkS, reduceIte, hsl, hcp, aload_newA G (cs := encB opTok.1) (n := 8) rfl, hst, hld] <;> rfl)))) | apply cond_t | apply cond_f))
 refine ⟨rfl, Fram.keeps (S := fun c => c = H.next) (k1.trans (.push _ _)) (Fram.set rfl) fun c hc e => by omega⟩
end
def fitQ (q : Quo) : Prop := q = noQ ∨ rightQ q = true
theorem fitQ.le {q : Quo} (h : fitQ q) : (0 ≤ q.k ∧ q.k ≤ 16) ∧ (0 ≤ q.b ∧ q.b ≤ 512) ∧ (0 ≤ q.r ∧ q.r ≤ 100) := by
 rcases h with rfl | h
 ·simp [noQ]
 ·unfold rightQ at h
  simp only [Bool.and_eq_true, decide_eq_true_eq] at h
  omega
def addQ (s q : Quo) : Quo := ⟨s.k + q.k, s.b + q.b, s.r + q.r, s.u⟩
def sumQ (C : PCat) : Nat → Nat → Quo → Quo
 | 0, _, s => s
 | j + 1, i, s => sumQ C j (i + 1) (addQ s (C.q i))
section
variable {H : Heap} {b m : Nat} {C : PCat}
def quoCells (C : PCat) : List AVal := encQ C.q0 ++ encQ C.q1 ++ encQ C.q2 ++ encQ C.q3
theorem quo_at (C : PCat) {i : Nat} (hi : i < 4) : aindex 4 4 true (.agg (quoCells C)) (.int .i64 (i : Nat)) = some (.agg (encQ (C.q i))) := by
 have hj : natOf (.int .i64 (i : Int)) = some i := natOf_nat _ i
 unfold aindex
 simp only [hj]
 match i, hi with
 | 0, _ => rfl
 | 1, _ => rfl
 | 2, _ => rfl
 | 3, _ => rfl
theorem create_loop {n lim N : Nat} {K : AVal → Heap → Prop} {t1 t5 : AVal} {sb : Nat} {H0 : Heap} (hfit : ∀ i, i < 4 → fitQ (C.q i)) (hlim : lim ≤ sb) (hs0 : H0.next ≤ sb)
  {S1 : Quo} (hK : ∀ H', Keeps2 H0 H' → H'.cells sb = some (encQ S1) → F22_j0 (Ahs.runT ap n) lim N K (.ptr (some (b, 0))) t1 t5 (.ptr (some (sb, 0))) H') :
  ∀ (j i q : Nat) (s : Quo) (H : Heap), j + i = 4 → j < q → Keeps2 H0 H → H.cells sb = some (encQ s) → (0 ≤ s.k ∧ s.k ≤ 16 + 16 * i) → (0 ≤ s.b ∧ s.b ≤ 512 + 512 * i) → (0 ≤ s.r ∧ s.r ≤ 100 + 100 * i) → sumQ C j i s = S1 →
   F22_l1 (Ahs.runT ap n) lim N K q (.ptr (some (b, 0))) t1 t5 (.ptr (some (sb, 0))) (.agg (quoCells C)) (.int .i64 (i : Nat)) H
 | j, i, 0, s, H, _, h, _, _, _, _, _, _ => by omega
 | j, i, q + 1, s, H, hj, hq, k0, hs, b1, b2, b3, hsum => by
  show F22_s1 _ _ _ _ (F22_l1 _ _ _ _ q) _ _ _ _ _ _ _
  unfold F22_s1
  cases j with
  | zero =>
   have hd : decide ((i : Int) < 4) = false := dF (by omega)
   (repeat (with_reducible first | ((first | apply bindP_intro | apply bind2_intro); (focus (first | rfl | (simp only [walkS, reduceIte, hd] <;> rfl)))) | apply cond_t | apply cond_f))
   have hsum : s = S1 := hsum
   subst hsum
   exact hK H k0 hs
  | succ j =>
   have hd : decide ((i : Int) < 4) = true := dT (by omega)
   have hf := (hfit i (by omega)).le
   have hsb := Heap.cells_lt hs
   have hst : astore lim (H.push (.cells z547173)) 4 (.ptr (some (H.next, 0))) (.agg (encQ (C.q i))) = some (H.push (.cells (encQ (C.q i)))) := astore_new (cs := z547173) (x := .agg (encQ (C.q i))) (by omega) rfl rfl rfl
   obtain ⟨qi, hqi⟩ : ∃ qi, qi = C.q i := ⟨_, rfl⟩
   have hc0 := quo_at C (i := i) (by omega)
   rw [← hqi] at hf hst hc0
   have hs1 : (H.push (.cells (encQ qi))).cells sb = some (encQ s) := cells_push_old hs
   have ls : ∀ o, aload (H.push (.cells (encQ qi))) none (.ptr (some (sb, o))) = (encQ s)[o]? := fun o => aload_one hs1 o
   have lq : ∀ o, aload (H.push (.cells (encQ qi))) none (.ptr (some (H.next, o))) = (encQ qi)[o]? := fun o => aload_new1 _ _ _
   have ap1 : ∀ o, apartB (.ptr (some (H.next, o))) (.ptr (some (sb, 0))) = true := fun o => by
    have : H.next ≠ sb := by omega
    simp [apartB, blkOf, this]
   have w1 : IntKind.i64.wrap (s.k + qi.k) = s.k + qi.k := wrap_i64 (by omega) (by omega)
   have w2 : IntKind.i64.wrap (s.b + qi.b) = s.b + qi.b := wrap_i64 (by omega) (by omega)
   have w3 : IntKind.i64.wrap (s.r + qi.r) = s.r + qi.r := wrap_i64 (by omega) (by omega)
   have hi1 : IntKind.i64.wrap ((i : Int) + 1) = ((i + 1 : Nat) : Int) := i64_succ (by omega)
   have hG : ∃ G, G = H.push (.cells (encQ qi)) := ⟨_, rfl⟩
   obtain ⟨G, hG⟩ := hG
   have k1 : Keeps2 H G := by rw [hG]; exact .push _ _
   rw [← hG] at hst hs1 ls lq
   have hsG := Heap.cells_lt hs1
   have st1 : astore lim G 1 (.ptr (some (sb, 0))) (.int .i64 (s.k + qi.k)) = some (G.set sb (.cells [.int .i64 (s.k + qi.k), .int .i64 s.b, .int .i64 s.r, .int .i64 s.u])) := astore_cell hs1 hlim rfl rfl (by show 0 < 4; omega) rfl
   generalize hG1 : G.set sb (.cells [.int .i64 (s.k + qi.k), .int .i64 s.b, .int .i64 s.r, .int .i64 s.u]) = G1 at *
   have c1 : G1.cells sb = some [.int .i64 (s.k + qi.k), .int .i64 s.b, .int .i64 s.r, .int .i64 s.u] := by rw [← hG1]; exact cells_set_same hsG
   have st2 : astore lim G1 1 (.ptr (some (sb, 1))) (.int .i64 (s.b + qi.b)) = some (G1.set sb (.cells [.int .i64 (s.k + qi.k), .int .i64 (s.b + qi.b), .int .i64 s.r, .int .i64 s.u])) := astore_cell c1 hlim rfl rfl (by show 1 < 4; omega) rfl
   generalize hG2 : G1.set sb (.cells [.int .i64 (s.k + qi.k), .int .i64 (s.b + qi.b), .int .i64 s.r, .int .i64 s.u]) = G2 at *
   have c2 : G2.cells sb = some [.int .i64 (s.k + qi.k), .int .i64 (s.b + qi.b), .int .i64 s.r, .int .i64 s.u] := by rw [← hG2]; exact cells_set_same (Heap.cells_lt c1)
   have st3 : astore lim G2 1 (.ptr (some (sb, 2))) (.int .i64 (s.r + qi.r)) = some (G2.set sb (.cells [.int .i64 (s.k + qi.k), .int .i64 (s.b + qi.b), .int .i64 (s.r + qi.r), .int .i64 s.u])) := astore_cell c2 hlim rfl rfl (by show 2 < 4; omega) rfl
   generalize hG3 : G2.set sb (.cells [.int .i64 (s.k + qi.k), .int .i64 (s.b + qi.b), .int .i64 (s.r + qi.r), .int .i64 s.u]) = G3 at *
   have c3 : G3.cells sb = some (encQ (addQ s qi)) := by rw [← hG3]; exact cells_set_same (Heap.cells_lt c2)
   have fr : Fram (fun c => c = sb) G G3 := by
    rw [← hG3, ← hG2, ← hG1]
    exact ((Fram.set (S := fun c => c = sb) rfl).trans (Fram.set (S := fun c => c = sb) rfl) fun _ _ e => e).trans (Fram.set (S := fun c => c = sb) rfl) fun _ _ e => e
   have k3 : Keeps2 H0 G3 := Fram.keeps (k0.trans k1) fr fun c hc e => by omega
   have ls0 := ls 0
   have ls1 := ls 1
   have ls2 := ls 2
   have lq0 := lq 0
   have lq1 := lq 1
   have lq2 := lq 2
   simp only [encQ, List.getElem?_cons_zero, List.getElem?_cons_succ] at ls0 ls1 ls2 lq0 lq1 lq2
   (repeat (with_reducible first | ((first | apply bindP_intro | apply bind2_intro); (focus (first | rfl | (simp only [walkS, reduceIte, hd, hc0, hst, ls0, lq0, w1, ls1] <;> rfl)))) | apply cond_t | apply cond_f))
   refine ⟨by simp [ap1], ?_⟩
   (repeat (with_reducible first | ((first | apply bindP_intro | apply bind2_intro); (focus (first | rfl | (simp only [walkS, reduceIte, lq1, w2, ls2] <;> rfl)))) | apply cond_t | apply cond_f))
   refine ⟨by simp [ap1], ?_⟩
   (repeat (with_reducible first | ((first | apply bindP_intro | apply bind2_intro); (focus (first | rfl | (simp only [walkS, reduceIte, lq2, w3, st1, st2, st3, hi1] <;> rfl)))) | apply cond_t | apply cond_f))
   refine create_loop hfit hlim hs0 hK j (i + 1) q (addQ s qi) G3 (by omega) (by omega) k3 c3 ?_ ?_ ?_ (by rw [hqi]; exact hsum)
   ·show 0 ≤ s.k + qi.k ∧ s.k + qi.k ≤ _; omega
   ·show 0 ≤ s.b + qi.b ∧ s.b + qi.b ≤ _; omega
   ·show 0 ≤ s.r + qi.r ∧ s.r + qi.r ≤ _; omega
def PCat.setQ (C : PCat) (s : Nat) (q : Quo) : PCat := match s with
 | 0 => { C with q0 := q }
 | 1 => { C with q1 := q }
 | 2 => { C with q2 := q }
 | _ => { C with q3 := q }
def createC (C : PCat) (s : Nat) (q : Quo) : Int × PCat :=
 if 4 ≤ s ∨ rightQ q = false then (11, C) else
 if 0 < (C.q s).k then (10, C) else
 if 48 < (sumQ C 4 0 q).k ∨ 1536 < (sumQ C 4 0 q).b ∨ 200 < (sumQ C 4 0 q).r then (9, C) else (0, C.setQ s q)
theorem set_slot (h : CatAt H b m C) {lim s : Nat} (hs : s < 4) (hlb : lim ≤ b) (q : Quo) : astore lim H 4 (.ptr (some (b, s * 4))) (.agg (encQ q)) = some (H.set b (.cells (catCells (C.setQ s q) m))) := by
 rw [astore_at (n := 4) (o := s * 4) (x := .agg (encQ q)) h.cells hlb rfl (by show s * 4 + 4 ≤ 17; omega) rfl]
 match s, hs with
 | 0, _ => rfl
 | 1, _ => rfl
 | 2, _ => rfl
 | 3, _ => rfl
theorem create_c {n lim s : Nat} (h : CatAt H b m C) (hfit : ∀ i, i < 4 → fitQ (C.q i)) (hlb : lim ≤ b) (hlim : lim ≤ H.next) (hs : s < 256) (q : Quo) (hn : 6 ≤ n) :
  ∃ v H', Ahs.runT ap (n + 3) lim (.fn 22) [.ptr (some (b, 0)), .int .u8 (s : Nat), .agg (encQ q)] H = some (v, H') ∧ v = .int .u8 (createC C s q).1 ∧ CatAt H' b m (createC C s q).2 ∧ Fram (cft b m) H H' := by
 refine F22_run a22 ?_
 unfold F22
 have hb : ((encQ q).all fun v => v.one) = true := rfl
 have hc : (AVal.agg (encQ q)).cells = encQ q := rfl
 have k1 : Keeps2 H (H.push (.cells (encQ q))) := .push _ _
 have n1 : (H.push (.cells (encQ q))).next = H.next + 1 := Heap.next_push _ _
 have x1 : (H.push (.cells (encQ q))).cells H.next = some (encQ q) := cells_push_new _ _
 generalize hG : H.push (.cells (encQ q)) = G at *
 have h1 := h.keep k1
 have lq : aload G (some 4) (.ptr (some (H.next, 0))) = some (.agg (encQ q)) := aload_all x1 rfl
 by_cases h4 : 4 ≤ s
 ·have d4 : decide ((4 : Int) ≤ (s : Int)) = true := dT (by omega)
  have e : createC C s q = (11, C) := by unfold createC; rw [if_pos (.inl h4)]
  rw [e]
  (repeat (with_reducible first | ((first | apply bindP_intro | apply bind2_intro); (focus (first | rfl | (simp only [walkS, reduceIte, hc, hb, hG, cnone_c h1, d4] <;> rfl)))) | apply cond_t | apply cond_f))
  exact ⟨rfl, h1, .of k1⟩
 ·have d4 : decide ((4 : Int) ≤ (s : Int)) = false := dF (by omega)
  obtain ⟨_, G2, r1, rfl, k2⟩ := right_c (H := G) (n := n) (lim := lim) q
  have h2 := h1.keep k2
  cases hr : rightQ q with
  | false =>
   rw [hr] at r1
   have e : createC C s q = (11, C) := by unfold createC; rw [if_pos (.inr hr)]
   rw [e]
   (repeat (with_reducible first | ((first | apply bindP_intro | apply bind2_intro); (focus (first | rfl | (simp only [walkS, reduceIte, hc, hb, hG, cnone_c h1, d4, lq, r1] <;> rfl)))) | apply cond_t | apply cond_f))
   exact ⟨rfl, h2, .of (k1.trans k2)⟩
  | true =>
   rw [hr] at r1
   have ht := fun n => there_c (n := n) (lim := lim) h2 (s := s) (by omega)
   by_cases hk : 0 < (C.q s).k
   ·have dk : decide (0 < (C.q s).k) = true := dT hk
    have e : createC C s q = (10, C) := by unfold createC; rw [if_neg (by rw [hr]; simp; omega), if_pos hk]
    rw [e]
    (repeat (with_reducible first | ((first | apply bindP_intro | apply bind2_intro); (focus (first | rfl | (simp only [walkS, reduceIte, hc, hb, hG, cnone_c h1, d4, lq, r1, ht, dk] <;> rfl)))) | apply cond_t | apply cond_f))
    exact ⟨rfl, h2, .of (k1.trans k2)⟩
   ·have dk : decide (0 < (C.q s).k) = false := dF hk
    have e : createC C s q = if 48 < (sumQ C 4 0 q).k ∨ 1536 < (sumQ C 4 0 q).b ∨ 200 < (sumQ C 4 0 q).r then (9, C) else (0, C.setQ s q) := by
     unfold createC; rw [if_neg (by rw [hr]; simp; omega), if_neg hk]
    rw [e]
    have lq2 := aload_keep k2 lq
    have k2n := k2.next
    have hst : astore lim (G2.push (.cells z547173)) 4 (.ptr (some (G2.next, 0))) (.agg (encQ q)) = some (G2.push (.cells (encQ q))) := astore_new (cs := z547173) (x := .agg (encQ q)) (by omega) rfl rfl rfl
    have k3 : Keeps2 G2 (G2.push (.cells (encQ q))) := .push _ _
    have h3 := h2.keep k3
    have l16 : aload (G2.push (.cells (encQ q))) (some 16) (.ptr (some (b, 0))) = some (.agg (quoCells C)) := by rw [aload_agg h3.cells]; rfl
    (repeat (with_reducible first | ((first | apply bindP_intro | apply bind2_intro); (focus (first | rfl | (simp only [walkS, reduceIte, hc, hb, hG, cnone_c h1, d4, lq, r1, ht, dk, lq2, hst, l16] <;> rfl)))) | apply cond_t | apply cond_f))
    have hq := (fitQ.le (.inr hr) : _)
    refine create_loop (H0 := G2) (S1 := sumQ C 4 0 q) hfit (by omega) (Nat.le_refl _) ?_ 4 0 (n + 2) q _ rfl (by omega) k3 (cells_push_new G2 _) (by omega) (by omega) (by omega) rfl
    intro H' k4 hS
    unfold F22_j0
    generalize sumQ C 4 0 q = S at *
    have k04 := (k1.trans k2).trans k4
    have h4' := h.keep k04
    have l0 : aload H' none (.ptr (some (G2.next, 0))) = some (.int .i64 S.k) := by rw [aload_one hS]; rfl
    have l1 : aload H' none (.ptr (some (G2.next, 1))) = some (.int .i64 S.b) := by rw [aload_one hS]; rfl
    have l2 : aload H' none (.ptr (some (G2.next, 2))) = some (.int .i64 S.r) := by rw [aload_one hS]; rfl
    have lq4 := aload_keep k4 lq2
    by_cases g1 : 48 < S.k
    ·have e1 : decide (48 < S.k) = true := dT g1
     rw [if_pos (.inl g1)]
     (repeat (with_reducible first | ((first | apply bindP_intro | apply bind2_intro); (focus (first | rfl | (simp only [walkS, reduceIte, l0, e1] <;> rfl)))) | apply cond_t | apply cond_f))
     exact ⟨rfl, h4', .of k04⟩
    ·have e1 : decide (48 < S.k) = false := dF g1
     by_cases g2 : 1536 < S.b
     ·have e2 : decide (1536 < S.b) = true := dT g2
      rw [if_pos (.inr (.inl g2))]
      (repeat (with_reducible first | ((first | apply bindP_intro | apply bind2_intro); (focus (first | rfl | (simp only [walkS, reduceIte, l0, e1, l1, e2] <;> rfl)))) | apply cond_t | apply cond_f))
      exact ⟨rfl, h4', .of k04⟩
     ·have e2 : decide (1536 < S.b) = false := dF g2
      by_cases g3 : 200 < S.r
      ·have e3 : decide (200 < S.r) = true := dT g3
       rw [if_pos (.inr (.inr g3))]
       (repeat (with_reducible first | ((first | apply bindP_intro | apply bind2_intro); (focus (first | rfl | (simp only [walkS, reduceIte, l0, e1, l1, e2, l2, e3] <;> rfl)))) | apply cond_t | apply cond_f))
       exact ⟨rfl, h4', .of k04⟩
      ·have e3 : decide (200 < S.r) = false := dF g3
       rw [if_neg (by omega)]
       (repeat (with_reducible first | ((first | apply bindP_intro | apply bind2_intro); (focus (first | rfl | (simp only [walkS, reduceIte, l0, e1, l1, e2, l2, e3, lq4, idx_slot (b := b) .u8 (show s < 4 by omega), set_slot h4' (show s < 4 by omega) hlb q] <;> rfl)))) | apply cond_t | apply cond_f))
       refine ⟨rfl, ⟨cells_set_same (Heap.cells_lt h4'.cells), ?_⟩, (Fram.of (S := cft b m) k04).trans (Fram.set (S := cft b m) (.inl rfl)) fun _ _ e => e⟩
       have hmm : (C.setQ s q).fs = C.fs := by unfold PCat.setQ; split <;> rfl
       rw [hmm]
       exact h4'.map.mono (Heap.get_set_other _ _ _ _ (Ne.symm h4'.ne)) fun _ _ _ _ h => h
end
theorem rright_c {H : Heap} {n lim : Nat} (q : Quo) : ∃ v H', Ahs.runT ap (n + 1) lim (.fn 35) [.agg (encQ q)] H = some (v, H') ∧ v = .bool (rightQ q) ∧ Keeps2 H H' := by
 refine F35_run a35 ?_
 unfold F35 rightQ
 have hb : ((encQ q).all fun v => v.one) = true := rfl
 have hc : (AVal.agg (encQ q)).cells = encQ q := rfl
 have l : ∀ o, aload (H.push (.cells (encQ q))) none (.ptr (some (H.next, o))) = (encQ q)[o]? := fun o => aload_new1 _ _ _
 have l0 := l 0
 have l1 := l 1
 have l2 := l 2
 have l3 := l 3
 simp only [encQ, List.getElem?_cons_zero, List.getElem?_cons_succ] at l0 l1 l2 l3 hb hc
 cases h0 : decide (1 ≤ q.k) with
 | false =>
  (repeat (with_reducible first | ((first | apply bindP_intro | apply bind2_intro); (focus (first | rfl | (simp only [walkS, reduceIte, encQ, hc, hb, l0, h0] <;> rfl)))) | apply cond_t | apply cond_f))
  exact ⟨by simp only [h0, Bool.and_false, Bool.false_and, Bool.true_and, Bool.and_true], .push _ _⟩
 | true =>
  cases h1 : decide (q.k ≤ 16) with
  | false =>
   (repeat (with_reducible first | ((first | apply bindP_intro | apply bind2_intro); (focus (first | rfl | (simp only [walkS, reduceIte, encQ, hc, hb, l0, h0, h1] <;> rfl)))) | apply cond_t | apply cond_f))
   exact ⟨by simp only [h0, h1, Bool.and_false, Bool.false_and, Bool.true_and, Bool.and_true], .push _ _⟩
  | true =>
   cases h2 : decide (1 ≤ q.b) with
   | false =>
    (repeat (with_reducible first | ((first | apply bindP_intro | apply bind2_intro); (focus (first | rfl | (simp only [walkS, reduceIte, encQ, hc, hb, l0, l1, h0, h1, h2] <;> rfl)))) | apply cond_t | apply cond_f))
    exact ⟨by simp only [h0, h1, h2, Bool.and_false, Bool.false_and, Bool.true_and, Bool.and_true], .push _ _⟩
   | true =>
    cases h3 : decide (q.b ≤ 512) with
    | false =>
     (repeat (with_reducible first | ((first | apply bindP_intro | apply bind2_intro); (focus (first | rfl | (simp only [walkS, reduceIte, encQ, hc, hb, l0, l1, h0, h1, h2, h3] <;> rfl)))) | apply cond_t | apply cond_f))
     exact ⟨by simp only [h0, h1, h2, h3, Bool.and_false, Bool.false_and, Bool.true_and, Bool.and_true], .push _ _⟩
    | true =>
     cases h4 : decide (0 ≤ q.r) with
     | false =>
      (repeat (with_reducible first | ((first | apply bindP_intro | apply bind2_intro); (focus (first | rfl | (simp only [walkS, reduceIte, encQ, hc, hb, l0, l1, l2, h0, h1, h2, h3, h4] <;> rfl)))) | apply cond_t | apply cond_f))
      exact ⟨by simp only [h0, h1, h2, h3, h4, Bool.and_false, Bool.false_and, Bool.true_and, Bool.and_true], .push _ _⟩
     | true =>
      cases h5 : decide (q.r ≤ 100) with
      | false =>
       (repeat (with_reducible first | ((first | apply bindP_intro | apply bind2_intro); (focus (first | rfl | (simp only [walkS, reduceIte, encQ, hc, hb, l0, l1, l2, h0, h1, h2, h3, h4, h5] <;> rfl)))) | apply cond_t | apply cond_f))
       exact ⟨by simp only [h0, h1, h2, h3, h4, h5, Bool.and_false, Bool.false_and, Bool.true_and, Bool.and_true], .push _ _⟩
      | true =>
       cases h6 : decide (1 ≤ q.u) with
       | false =>
        (repeat (with_reducible first | ((first | apply bindP_intro | apply bind2_intro); (focus (first | rfl | (simp only [walkS, reduceIte, encQ, hc, hb, l0, l1, l2, l3, h0, h1, h2, h3, h4, h5, h6] <;> rfl)))) | apply cond_t | apply cond_f))
        exact ⟨by simp only [h0, h1, h2, h3, h4, h5, h6, Bool.and_false, Bool.false_and, Bool.true_and, Bool.and_true], .push _ _⟩
       | true =>
        cases h7 : decide (q.u ≤ 100) with
        | false =>
         (repeat (with_reducible first | ((first | apply bindP_intro | apply bind2_intro); (focus (first | rfl | (simp only [walkS, reduceIte, encQ, hc, hb, l0, l1, l2, l3, h0, h1, h2, h3, h4, h5, h6, h7] <;> rfl)))) | apply cond_t | apply cond_f))
         exact ⟨by simp only [h0, h1, h2, h3, h4, h5, h6, h7, Bool.and_false, Bool.false_and, Bool.true_and, Bool.and_true], .push _ _⟩
        | true =>
         (repeat (with_reducible first | ((first | apply bindP_intro | apply bind2_intro); (focus (first | rfl | (simp only [walkS, reduceIte, encQ, hc, hb, l0, l1, l2, l3, h0, h1, h2, h3, h4, h5, h6, h7] <;> rfl)))) | apply cond_t | apply cond_f))
         exact ⟨by simp only [h0, h1, h2, h3, h4, h5, h6, h7, Bool.and_self], .push _ _⟩
abbrev Ent := Tok × Nat × Nat
def removeC (C : PCat) (s : Nat) : Int × PCat :=
 if 4 ≤ s then (11, C) else if 0 < (C.q s).k then (0, { C.setQ s noQ with fs := C.fs.filter fun x => !decide (x.2.1 = s) }) else (1, C)
def manyC (fs : List Ent) (s : Nat) : Nat := fs.countP fun x => decide (x.2.1 = s)
def insT (x : Ent) : List Ent → List Ent
 | [] => [x]
 | y :: ys => if x.1.1 < y.1.1 then x :: y :: ys else y :: insT x ys
def prinC (C : PCat) (s : Nat) (t : Tok) (r : Nat) : Int × PCat :=
 if 4 ≤ s ∨ r < 1 ∨ 3 < r ∨ t = opTok then (11, C) else
 if 0 < (C.q s).k then (if (whoC C t).2.2 = true then (10, C) else if 4 ≤ manyC C.fs s then (9, C) else (0, { C with fs := insT (t, s, r) C.fs })) else (1, C)
def LtT (a b : Ent) : Prop := a.1.1 < b.1.1
structure OkC (C : PCat) : Prop where
 fit : ∀ i, i < 4 → fitQ (C.q i)
 sums : (sumQ C 4 0 noQ).k ≤ 48 ∧ (sumQ C 4 0 noQ).b ≤ 1536 ∧ (sumQ C 4 0 noQ).r ≤ 200
 sorted : C.fs.Pairwise LtT
 ent : ∀ x ∈ C.fs, x.2.1 < 4 ∧ 0 < (C.q x.2.1).k ∧ 1 ≤ x.2.2 ∧ x.2.2 ≤ 3 ∧ x.1 ≠ opTok
 four : ∀ s, manyC C.fs s ≤ 4
theorem LtT.irrefl (a : Ent) : ¬ LtT a a := List.lt_irrefl _
theorem LtT.trans {a b c : Ent} (h : LtT a b) (h' : LtT b c) : LtT a c := List.lt_trans h h'
theorem insT_perm (x : Ent) : ∀ ys, (insT x ys).Perm (x :: ys)
 | [] => .refl _
 | y :: ys => by
  unfold insT
  split
  ·exact .refl _
  ·exact ((insT_perm x ys).cons y).trans (List.Perm.swap x y ys)
theorem insT_sorted {x : Ent} : ∀ {ys : List Ent}, ys.Pairwise LtT → (∀ y ∈ ys, y.1 ≠ x.1) → (insT x ys).Pairwise LtT
 | [], _, _ => by simp [insT]
 | y :: ys, h, hn => by
  have h1 := List.pairwise_cons.1 h
  unfold insT
  split
  ·rename_i hlt
   refine List.pairwise_cons.2 ⟨fun z hz => ?_, h⟩
   rcases List.mem_cons.1 hz with rfl | hz
   ·exact hlt
   ·exact LtT.trans hlt (h1.1 z hz)
  ·rename_i hle
   have hyx : LtT y x := by
    by_cases q : y.1.1 < x.1.1
    ·exact q
    ·exact absurd (Subtype.ext (List.le_antisymm (List.not_lt.1 hle) (List.not_lt.1 q))) (hn y (by simp))
   refine List.pairwise_cons.2 ⟨fun z hz => ?_, insT_sorted h1.2 fun z hz => hn z (by simp [hz])⟩
   rcases List.mem_cons.1 ((insT_perm x ys).mem_iff.1 hz) with rfl | hz
   ·exact hyx
   ·exact h1.1 z hz
theorem insT_last {x : Ent} : ∀ {ys : List Ent}, (∀ y ∈ ys, LtT y x) → insT x ys = ys ++ [x]
 | [], _ => rfl
 | y :: ys, h => by
  have hy := h y (by simp)
  unfold insT
  have hno : ¬ x.1.1 < y.1.1 := fun e => LtT.irrefl x (LtT.trans (b := y) e hy)
  rw [if_neg hno, insT_last fun z hz => h z (by simp [hz])]
  rfl
theorem sorted_nodup {fs : List Ent} (h : fs.Pairwise LtT) : (fs.map (·.1)).Nodup := by
 rw [List.Nodup, List.pairwise_map]
 exact h.imp fun {a b} hab e => by
  have : a.1.1 = b.1.1 := by rw [e]
  unfold LtT at hab
  rw [this] at hab
  exact List.lt_irrefl _ hab
theorem sorted_eq {xs ys : List Ent} (hx : xs.Pairwise LtT) (hy : ys.Pairwise LtT) (hp : xs.Perm ys) : xs = ys :=
 List.Perm.eq_of_pairwise (le := LtT) (fun a b _ _ h1 h2 => absurd (LtT.trans h1 h2) (LtT.irrefl a)) hx hy hp
theorem manyC_perm {a b : List Ent} (h : a.Perm b) (s : Nat) : manyC a s = manyC b s := h.countP_eq _
theorem who_none {C : PCat} {t : Tok} (h : (whoC C t).2.2 = false) : t ∉ C.fs.map (·.1) := by
 unfold whoC at h
 cases hl : lk C.fs t with
 | none => exact lk_none.1 hl
 | some a => rw [hl] at h; simp at h
theorem who_of_none {C : PCat} {t : Tok} (h : t ∉ C.fs.map (·.1)) : (whoC C t).2.2 = false := by
 unfold whoC
 rw [lk_none.2 h]
theorem setQ_q (C : PCat) {s i : Nat} (hs : s < 4) (hi : i < 4) (q : Quo) : (C.setQ s q).q i = if i = s then q else C.q i := by
 match s, hs, i, hi with
 | 0, _, 0, _ | 0, _, 1, _ | 0, _, 2, _ | 0, _, 3, _ | 1, _, 0, _ | 1, _, 1, _ | 1, _, 2, _ | 1, _, 3, _ | 2, _, 0, _ | 2, _, 1, _ | 2, _, 2, _ | 2, _, 3, _ | 3, _, 0, _ | 3, _, 1, _ | 3, _, 2, _ | 3, _, 3, _ => rfl
theorem setQ_fs (C : PCat) (s : Nat) (q : Quo) : (C.setQ s q).fs = C.fs := by unfold PCat.setQ; split <;> rfl
theorem fsq (C : PCat) (fs : List Ent) (i : Nat) : ({ C with fs := fs } : PCat).q i = C.q i := by
 match i with
 | 0 | 1 | 2 | _ + 3 => rfl
theorem right_pos {q : Quo} (h : rightQ q = true) : 0 < q.k := by
 unfold rightQ at h
 simp only [Bool.and_eq_true, decide_eq_true_eq] at h
 omega
theorem fitQ.zero {q : Quo} (h : fitQ q) (h0 : ¬ 0 < q.k) : q = noQ := by
 rcases h with h | h
 ·exact h
 ·exact absurd (right_pos h) h0
theorem fitQ.right {q : Quo} (h : fitQ q) (h0 : 0 < q.k) : rightQ q = true := by
 rcases h with rfl | h
 ·simp [noQ] at h0
 ·exact h
theorem sum_k (C : PCat) (q : Quo) : (sumQ C 4 0 q).k = q.k + C.q0.k + C.q1.k + C.q2.k + C.q3.k := rfl
theorem sum_b (C : PCat) (q : Quo) : (sumQ C 4 0 q).b = q.b + C.q0.b + C.q1.b + C.q2.b + C.q3.b := rfl
theorem sum_r (C : PCat) (q : Quo) : (sumQ C 4 0 q).r = q.r + C.q0.r + C.q1.r + C.q2.r + C.q3.r := rfl
theorem noQ_k : noQ.k = 0 := rfl
theorem noQ_b : noQ.b = 0 := rfl
theorem noQ_r : noQ.r = 0 := rfl
theorem ok_new : OkC newC where
 fit := fun i hi => by
  match i, hi with
  | 0, _ | 1, _ | 2, _ | 3, _ => exact .inl rfl
 sums := by simp [sum_k, sum_b, sum_r, newC, noQ]
 sorted := .nil
 ent := fun x hx => by simp [newC] at hx
 four := fun s => by simp [newC, manyC]
theorem sums_set {C : PCat} {s : Nat} {q : Quo} (hs : s < 4) :
  (sumQ (C.setQ s q) 4 0 noQ).k = (sumQ C 4 0 noQ).k - (C.q s).k + q.k ∧ (sumQ (C.setQ s q) 4 0 noQ).b = (sumQ C 4 0 noQ).b - (C.q s).b + q.b ∧ (sumQ (C.setQ s q) 4 0 noQ).r = (sumQ C 4 0 noQ).r - (C.q s).r + q.r := by
 simp only [sum_k, sum_b, sum_r, noQ_k, noQ_b, noQ_r]
 match s, hs with
 | 0, _ | 1, _ | 2, _ | 3, _ => simp only [PCat.setQ, PCat.q]; omega
theorem createC_ok {C : PCat} (h : OkC C) {s : Nat} {q : Quo} : OkC (createC C s q).2 ∧ ((createC C s q).1 ≠ 0 → (createC C s q).2 = C) := by
 unfold createC
 split
 ·exact ⟨h, fun _ => rfl⟩
 rename_i h1
 split
 ·exact ⟨h, fun _ => rfl⟩
 rename_i h2
 split
 ·exact ⟨h, fun _ => rfl⟩
 rename_i h3
 refine ⟨?_, fun e => absurd rfl e⟩
 have hs : s < 4 := by omega
 have hr : rightQ q = true := by
  cases hq : rightQ q with
  | true => rfl
  | false => exact absurd (Or.inr hq) h1
 have hz := (h.fit s hs).zero h2
 have hset := sums_set (C := C) (q := q) hs
 rw [hz] at hset
 simp only [noQ_k, noQ_b, noQ_r] at hset
 simp only [sum_k, sum_b, sum_r, noQ_k, noQ_b, noQ_r] at h3 hset
 refine ⟨fun i hi => ?_, ?_, by rw [setQ_fs]; exact h.sorted, fun x hx => ?_, by rw [setQ_fs]; exact h.four⟩
 ·rw [setQ_q C hs hi]
  split
  ·exact .inr hr
  ·exact h.fit i hi
 ·simp only [sum_k, sum_b, sum_r, noQ_k, noQ_b, noQ_r]
  omega
 ·rw [setQ_fs] at hx
  obtain ⟨g1, g2, g3⟩ := h.ent x hx
  refine ⟨g1, ?_, g3⟩
  rw [setQ_q C hs g1]
  split
  ·exact right_pos hr
  ·exact g2
theorem removeC_ok {C : PCat} (h : OkC C) {s : Nat} : OkC (removeC C s).2 ∧ ((removeC C s).1 ≠ 0 → (removeC C s).2 = C) := by
 unfold removeC
 split
 ·exact ⟨h, fun _ => rfl⟩
 rename_i h1
 split
 ·rename_i h2
  refine ⟨?_, fun e => absurd rfl e⟩
  have hs : s < 4 := by omega
  have hset := sums_set (C := C) (q := noQ) hs
  have hle := (h.fit s hs).le
  have h3 := h.sums
  refine ⟨fun i hi => ?_, ?_, List.Pairwise.sublist List.filter_sublist h.sorted, fun x hx => ?_, fun s' => Nat.le_trans (List.Sublist.countP_le List.filter_sublist) (h.four s')⟩
  ·rw [fsq, setQ_q C hs hi]
   split
   ·exact .inl rfl
   ·exact h.fit i hi
  ·have e : ∀ fs, (sumQ { C.setQ s noQ with fs := fs } 4 0 noQ) = sumQ (C.setQ s noQ) 4 0 noQ := fun fs => rfl
   rw [e]
   simp only [noQ_k, noQ_b, noQ_r] at hset
   omega
  ·have hx' := List.mem_filter.1 hx
   obtain ⟨g1, g2, g3⟩ := h.ent x hx'.1
   have hne : x.2.1 ≠ s := by simpa using hx'.2
   refine ⟨g1, ?_, g3⟩
   rw [fsq, setQ_q C hs g1, if_neg hne]
   exact g2
 ·exact ⟨h, fun _ => rfl⟩
theorem prinC_ok {C : PCat} (h : OkC C) {s r : Nat} {t : Tok} : OkC (prinC C s t r).2 ∧ ((prinC C s t r).1 ≠ 0 → (prinC C s t r).2 = C) := by
 unfold prinC
 split
 ·exact ⟨h, fun _ => rfl⟩
 rename_i h1
 split
 case isFalse => exact ⟨h, fun _ => rfl⟩
 rename_i h2
 split
 ·exact ⟨h, fun _ => rfl⟩
 rename_i h3
 split
 ·exact ⟨h, fun _ => rfl⟩
 rename_i h4
 refine ⟨?_, fun e => absurd rfl e⟩
 have hn := who_none (Bool.eq_false_iff.2 h3)
 have hp := insT_perm (t, s, r) C.fs
 refine ⟨fun i hi => by rw [fsq]; exact h.fit i hi, h.sums, insT_sorted h.sorted fun y hy e => hn (List.mem_map.2 ⟨y, hy, e⟩), fun x hx => ?_, fun s' => ?_⟩
 ·rw [fsq]
  rcases List.mem_cons.1 (hp.mem_iff.1 hx) with rfl | hx
  ·have g1 : ¬ 4 ≤ s := fun e => h1 (.inl e)
   have g2 : ¬ r < 1 := fun e => h1 (.inr (.inl e))
   have g3 : ¬ 3 < r := fun e => h1 (.inr (.inr (.inl e)))
   exact ⟨Nat.lt_of_not_le g1, h2, Nat.le_of_not_lt g2, Nat.le_of_not_lt g3, fun e => h1 (.inr (.inr (.inr e)))⟩
  ·exact h.ent x hx
 ·show manyC (insT (t, s, r) C.fs) s' ≤ 4
  rw [manyC_perm hp]
  have h5 := h.four s'
  unfold manyC at h4 h5 ⊢
  rw [List.countP_cons]
  by_cases e : s = s'
  ·subst e; simp; omega
  ·simp [e]; omega
theorem dropC_ok {C : PCat} (h : OkC C) {t : Tok} : OkC (dropC C t).2 ∧ ((dropC C t).1 ≠ 0 → (dropC C t).2 = C) := by
 unfold dropC
 split
 ·refine ⟨⟨fun i hi => by rw [fsq]; exact h.fit i hi, h.sums, List.Pairwise.sublist List.filter_sublist h.sorted, fun x hx => ?_, fun s' => Nat.le_trans (List.Sublist.countP_le List.filter_sublist) (h.four s')⟩, fun e => absurd rfl e⟩
  rw [fsq]
  exact h.ent x (List.mem_filter.1 hx).1
 ·exact ⟨h, fun _ => rfl⟩
def wQ (q : Quo) : List UInt8 := if 0 < q.k then 1 :: (vNum q.k.toNat ++ (vNum q.b.toNat ++ (vNum q.r.toNat ++ vNum q.u.toNat))) else [0]
def wP (x : Ent) : List UInt8 := x.1.1 ++ [UInt8.ofNat x.2.1, UInt8.ofNat x.2.2]
def writeC (C : PCat) : List UInt8 := wQ C.q0 ++ (wQ C.q1 ++ (wQ C.q2 ++ (wQ C.q3 ++ (vNum C.fs.length ++ C.fs.flatMap wP))))
def rV0 (s : List UInt8) : Nat × Nat := (rV s).getD (0, 0)
def cutN (s : List UInt8) : Nat := min (rV0 s).1 4294967296
def cutR (s : List UInt8) : List UInt8 := s.drop (rV0 s).2
def quoP (s : List UInt8) : Quo := ⟨cutN s, cutN (cutR s), cutN (cutR (cutR s)), cutN (cutR (cutR (cutR s)))⟩
def quoR (s : List UInt8) : List UInt8 := cutR (cutR (cutR (cutR s)))
def slotsP : Nat → Nat → PCat → List UInt8 → Option (PCat × List UInt8)
 | 0, _, C, s => some (C, s)
 | _ + 1, _, _, [] => none
 | j + 1, i, C, c :: s => if c = 1 then (if (createC C i (quoP s)).1 = 0 then slotsP j (i + 1) (createC C i (quoP s)).2 (quoR s) else none) else slotsP j (i + 1) C s
def tokP (s : List UInt8) (h : 10 ≤ s.length) : Tok := ⟨s.take 8, by rw [List.length_take]; omega⟩
def byteP (s : List UInt8) (i : Nat) : Nat := (s.getD i 0).toNat
def prinsP : Nat → PCat → List UInt8 → PCat
 | 0, C, _ => C
 | n + 1, C, s => if h : 10 ≤ s.length then prinsP n (prinC C (byteP s 8) (tokP s h) (byteP s 9)).2 (s.drop 10) else C
def pRead (s : List UInt8) : Option PCat := match slotsP 4 0 newC s with
 | none => none
 | some (C, r) => some (prinsP (rV0 r).1 C (cutR r))
def readC (s : List UInt8) : Option PCat := match pRead s with
 | none => none
 | some C => if writeC C = s then some C else none
theorem rV0_v {n : Nat} (h : n < 18446744073709551616) (t : List UInt8) : rV0 (vNum n ++ t) = (n, (vNum n).length) := by
 unfold rV0
 rw [rV_vNum h]; rfl
theorem cutR_v {n : Nat} (h : n < 18446744073709551616) (t : List UInt8) : cutR (vNum n ++ t) = t := by
 unfold cutR
 rw [rV0_v h, List.drop_left]
theorem cutN_v {n : Nat} (h : n ≤ 4294967296) (t : List UInt8) : cutN (vNum n ++ t) = n := by
 unfold cutN
 rw [rV0_v (by omega)]
 exact Nat.min_eq_left h
theorem slot_step {j i : Nat} {D : PCat} {q : Quo} (hf : fitQ q) (hi : i < 4) (hd : D.q i = noQ) (hs : (sumQ D 4 0 q).k ≤ 48 ∧ (sumQ D 4 0 q).b ≤ 1536 ∧ (sumQ D 4 0 q).r ≤ 200) (t : List UInt8) :
  slotsP (j + 1) i D (wQ q ++ t) = slotsP j (i + 1) (D.setQ i q) t := by
 by_cases hk : 0 < q.k
 ·have hr := hf.right hk
  have hle := hf.le
  have hu : 0 ≤ q.u ∧ q.u ≤ 100 := by
   unfold rightQ at hr
   simp only [Bool.and_eq_true, decide_eq_true_eq] at hr
   omega
  unfold wQ
  rw [if_pos hk]
  have e1 : quoP (vNum q.k.toNat ++ (vNum q.b.toNat ++ (vNum q.r.toNat ++ vNum q.u.toNat)) ++ t) = q := by
   unfold quoP
   simp only [List.append_assoc]
   rw [cutR_v (n := q.k.toNat) (by omega), cutR_v (n := q.b.toNat) (by omega), cutR_v (n := q.r.toNat) (by omega), cutN_v (n := q.k.toNat) (by omega), cutN_v (n := q.b.toNat) (by omega), cutN_v (n := q.r.toNat) (by omega), cutN_v (n := q.u.toNat) (by omega)]
   rw [Int.toNat_of_nonneg (by omega), Int.toNat_of_nonneg (by omega), Int.toNat_of_nonneg (by omega), Int.toNat_of_nonneg (by omega)]
  have e2 : quoR (vNum q.k.toNat ++ (vNum q.b.toNat ++ (vNum q.r.toNat ++ vNum q.u.toNat)) ++ t) = t := by
   unfold quoR
   simp only [List.append_assoc]
   rw [cutR_v (n := q.k.toNat) (by omega), cutR_v (n := q.b.toNat) (by omega), cutR_v (n := q.r.toNat) (by omega), cutR_v (n := q.u.toNat) (by omega)]
  have ec : createC D i q = (0, D.setQ i q) := by
   unfold createC
   rw [if_neg (by rw [hr]; simp; omega), if_neg (by rw [hd]; simp [noQ]), if_neg (by omega)]
  rw [List.cons_append]
  show (if (1 : UInt8) = 1 then _ else _) = _
  rw [if_pos rfl, e1, e2, ec, if_pos rfl]
 ·have hz := hf.zero hk
  subst hz
  have e : D.setQ i noQ = D := by
   match i, hi with
   | 0, _ | 1, _ | 2, _ | 3, _ => cases D; simp only [PCat.q] at hd; subst hd; rfl
  rw [e]
  rfl
theorem slots_up {C : PCat} (h : OkC C) (t : List UInt8) : slotsP 4 0 newC (wQ C.q0 ++ (wQ C.q1 ++ (wQ C.q2 ++ (wQ C.q3 ++ t)))) = some ({ C with fs := [] }, t) := by
 have f0 := h.fit 0 (by omega)
 have f1 := h.fit 1 (by omega)
 have f2 := h.fit 2 (by omega)
 have f3 := h.fit 3 (by omega)
 have l0 := f0.le
 have l1 := f1.le
 have l2 := f2.le
 have l3 := f3.le
 have hs := h.sums
 simp only [sum_k, sum_b, sum_r, noQ_k, noQ_b, noQ_r, PCat.q] at hs l0 l1 l2 l3
 rw [slot_step (q := C.q0) (D := newC) f0 (by omega) rfl (by simp only [sum_k, sum_b, sum_r, newC, noQ_k, noQ_b, noQ_r]; omega),
  slot_step (q := C.q1) f1 (by omega) rfl (by simp only [sum_k, sum_b, sum_r, newC, PCat.setQ, noQ_k, noQ_b, noQ_r]; omega),
  slot_step (q := C.q2) f2 (by omega) rfl (by simp only [sum_k, sum_b, sum_r, newC, PCat.setQ, noQ_k, noQ_b, noQ_r]; omega),
  slot_step (q := C.q3) f3 (by omega) rfl (by simp only [sum_k, sum_b, sum_r, newC, PCat.setQ, noQ_k, noQ_b, noQ_r]; omega)]
 rfl
theorem wP_len (x : Ent) : (wP x).length = 10 := by
 unfold wP
 rw [List.length_append, x.1.2]; rfl
theorem wP_take (x : Ent) (t : List UInt8) : (wP x ++ t).take 8 = x.1.1 := by
 unfold wP
 rw [List.append_assoc]
 exact List.take_left' x.1.2
theorem wP_drop (x : Ent) (t : List UInt8) : (wP x ++ t).drop 10 = t := by
 exact List.drop_left' (wP_len x)
theorem wP_8 (x : Ent) (t : List UInt8) (h : x.2.1 < 256) : byteP (wP x ++ t) 8 = x.2.1 := by
 unfold byteP wP
 rw [List.append_assoc, List.getD_eq_getElem?_getD, List.getElem?_append_right (by rw [x.1.2]; exact Nat.le_refl _), x.1.2]
 exact toNat_of h
theorem wP_9 (x : Ent) (t : List UInt8) (h : x.2.2 < 256) : byteP (wP x ++ t) 9 = x.2.2 := by
 unfold byteP wP
 rw [List.append_assoc, List.getD_eq_getElem?_getD, List.getElem?_append_right (by rw [x.1.2]; omega), x.1.2]
 exact toNat_of h
theorem prin_next {C : PCat} (h : OkC C) {pre suf : List Ent} {x : Ent} (e : pre ++ x :: suf = C.fs) : prinC { C with fs := pre } x.2.1 x.1 x.2.2 = (0, { C with fs := pre ++ [x] }) := by
 have hx : x ∈ C.fs := by rw [← e]; simp
 obtain ⟨g1, g2, g3, g4, g5⟩ := h.ent x hx
 have hs := h.sorted
 rw [← e, List.pairwise_append] at hs
 have hlt : ∀ y ∈ pre, LtT y x := fun y hy => hs.2.2 y hy x (by simp)
 have hn : (whoC { C with fs := pre } x.1).2.2 = false := who_of_none (by
  intro hm
  obtain ⟨y, hy, he⟩ := List.mem_map.1 hm
  have := hlt y hy
  unfold LtT at this
  rw [he] at this
  exact List.lt_irrefl _ this)
 have hm : manyC pre x.2.1 < 4 := by
  have h5 := h.four x.2.1
  rw [← e] at h5
  unfold manyC at h5 ⊢
  rw [List.countP_append, List.countP_cons] at h5
  simp at h5
  simp
  omega
 unfold prinC
 rw [if_neg (by rintro (q | q | q | q) <;> first | omega | exact g5 q), if_pos (by rw [fsq]; exact g2), hn, if_neg (by simp), if_neg (by show ¬ 4 ≤ manyC pre x.2.1; omega)]
 show (0, ({ C with fs := insT x pre } : PCat)) = _
 rw [insT_last hlt]
theorem prins_up {C : PCat} (h : OkC C) (t : List UInt8) : ∀ (suf pre : List Ent), pre ++ suf = C.fs → prinsP suf.length { C with fs := pre } (suf.flatMap wP ++ t) = C
 | [], pre, e => by
  rw [List.append_nil] at e
  show ({ C with fs := pre } : PCat) = C
  rw [e]
 | x :: suf, pre, e => by
  have hx : x ∈ C.fs := by rw [← e]; simp
  obtain ⟨g1, g2, g3, g4, g5⟩ := h.ent x hx
  have e1 : (x :: suf).flatMap wP ++ t = wP x ++ (suf.flatMap wP ++ t) := by rw [List.flatMap_cons, List.append_assoc]
  have hl : 10 ≤ (wP x ++ (suf.flatMap wP ++ t)).length := by rw [List.length_append, wP_len]; omega
  rw [e1]
  show prinsP (suf.length + 1) _ _ = _
  unfold prinsP
  rw [dif_pos hl]
  have et : tokP (wP x ++ (suf.flatMap wP ++ t)) hl = x.1 := Subtype.ext (wP_take x _)
  rw [et, wP_8 x _ (by omega), wP_9 x _ (by omega), wP_drop, prin_next h e]
  exact prins_up h t suf (pre ++ [x]) (by rw [← e]; simp)
theorem many_le {C : PCat} (h : OkC C) : C.fs.length ≤ 16 := by
 have key : ∀ fs : List Ent, (∀ x ∈ fs, x.2.1 < 4) → fs.length = manyC fs 0 + manyC fs 1 + manyC fs 2 + manyC fs 3 := by
  intro fs
  induction fs with
  | nil => intro _; rfl
  | cons x fs ih =>
   intro hx
   have h1 := ih fun y hy => hx y (by simp [hy])
   have h2 := hx x (by simp)
   unfold manyC at h1 ⊢
   simp only [List.countP_cons, List.length_cons, decide_eq_true_eq]
   have : (if x.2.1 = 0 then 1 else 0) + (if x.2.1 = 1 then 1 else 0) + (if x.2.1 = 2 then 1 else 0) + (if x.2.1 = 3 then 1 else 0) = 1 := by
    rcases (show x.2.1 = 0 ∨ x.2.1 = 1 ∨ x.2.1 = 2 ∨ x.2.1 = 3 by omega) with q | q | q | q <;> rw [q] <;> rfl
   omega
 have h0 := h.four 0
 have h1 := h.four 1
 have h2 := h.four 2
 have h3 := h.four 3
 have := key C.fs fun x hx => (h.ent x hx).1
 omega
theorem pread_write {C : PCat} (h : OkC C) (t : List UInt8) : pRead (writeC C ++ t) = some C := by
 have hm := many_le h
 have e : writeC C ++ t = wQ C.q0 ++ (wQ C.q1 ++ (wQ C.q2 ++ (wQ C.q3 ++ (vNum C.fs.length ++ (C.fs.flatMap wP ++ t))))) := by
  unfold writeC
  simp only [List.append_assoc]
 unfold pRead
 rw [e, slots_up h]
 simp only
 rw [rV0_v (by omega), cutR_v (by omega)]
 simp only
 rw [prins_up h t C.fs [] rfl]
theorem slots_ok : ∀ (j i : Nat) (D : PCat) (s : List UInt8) {C : PCat} {r : List UInt8}, OkC D → slotsP j i D s = some (C, r) → OkC C
 | 0, i, D, s, C, r, h, e => by
  simp only [slotsP, Option.some.injEq, Prod.mk.injEq] at e
  rw [← e.1]; exact h
 | j + 1, i, D, [], C, r, h, e => by simp [slotsP] at e
 | j + 1, i, D, c :: s, C, r, h, e => by
  unfold slotsP at e
  split at e
  ·split at e
   ·exact slots_ok j (i + 1) _ _ (createC_ok h).1 e
   ·simp at e
  ·exact slots_ok j (i + 1) _ _ h e
theorem prins_ok : ∀ (n : Nat) (D : PCat) (s : List UInt8), OkC D → OkC (prinsP n D s)
 | 0, D, s, h => h
 | n + 1, D, s, h => by
  unfold prinsP
  split
  ·exact prins_ok n _ _ (prinC_ok h).1
  ·exact h
theorem pread_ok {s : List UInt8} {C : PCat} (e : pRead s = some C) : OkC C := by
 unfold pRead at e
 split at e
 ·simp at e
 ·rename_i D r hd
  simp only [Option.some.injEq] at e
  rw [← e]
  exact prins_ok _ _ _ (slots_ok 4 0 newC s ok_new hd)
theorem read_write {C : PCat} (h : OkC C) : readC (writeC C) = some C := by
 have := pread_write h []
 rw [List.append_nil] at this
 unfold readC
 rw [this]
 simp
theorem read_some {s : List UInt8} {C : PCat} (e : readC s = some C) : OkC C ∧ s = writeC C := by
 unfold readC at e
 split at e
 ·simp at e
 ·rename_i D hd
  split at e
  ·rename_i hw
   simp only [Option.some.injEq] at e
   subst e
   exact ⟨pread_ok hd, hw.symm⟩
  ·simp at e
theorem write_pre {C D : PCat} (h : OkC C) (hd : OkC D) {t : List UInt8} (e : writeC C ++ t = writeC D) : t = [] ∧ C = D := by
 have h1 := pread_write h t
 have h2 := pread_write hd []
 rw [List.append_nil, ← e, h1] at h2
 simp only [Option.some.injEq] at h2
 subst h2
 exact ⟨by simpa using e, rfl⟩
theorem read_more {C : PCat} (h : OkC C) {t : List UInt8} (ht : t ≠ []) : readC (writeC C ++ t) = none := by
 cases e : readC (writeC C ++ t) with
 | none => rfl
 | some D =>
  obtain ⟨h1, h2⟩ := read_some e
  exact absurd (write_pre h h1 h2).1 ht
theorem read_cut {C : PCat} (h : OkC C) {n : Nat} (hn : n < (writeC C).length) : readC ((writeC C).take n) = none := by
 cases e : readC ((writeC C).take n) with
 | none => rfl
 | some D =>
  obtain ⟨h1, h2⟩ := read_some e
  have h3 : writeC D ++ (writeC C).drop n = writeC C := by rw [← h2, List.take_append_drop]
  have h4 := (write_pre h1 h h3).1
  have := congrArg List.length h4
  simp at this
  omega
theorem write_inj {C D : PCat} (h : OkC C) (hd : OkC D) (e : writeC C = writeC D) : C = D := (write_pre h hd (t := []) (by rw [List.append_nil]; exact e)).2
def rnum (s : List UInt8) : Option (Nat × List UInt8) := match rV s with
 | none => none
 | some (n, j) => if 1000 < n then none else some (n, s.drop j)
def rquo (s : List UInt8) : Option (Quo × List UInt8) :=
 match rnum s with
 | none => none
 | some (a, s) => match rnum s with
  | none => none
  | some (b, s) => match rnum s with
   | none => none
   | some (c, s) => match rnum s with
    | none => none
    | some (d, s) => some (⟨a, b, c, d⟩, s)
def rslots : Nat → Nat → PCat → List UInt8 → Option (PCat × List UInt8)
 | 0, _, C, s => some (C, s)
 | _ + 1, _, _, [] => none
 | j + 1, i, C, c :: s => if 1 < c then none else if c = 1 then (match rquo s with
   | none => none
   | some (q, r) => if (createC C i q).1 = 0 then rslots j (i + 1) (createC C i q).2 r else none) else rslots j (i + 1) C s
def lastOK (fs : List Ent) (t : Tok) : Bool := match fs.getLast? with
 | none => true
 | some x => decide (x.1.1 < t.1)
def rprins : Nat → PCat → List UInt8 → Option PCat
 | 0, C, _ => some C
 | n + 1, C, s => if h : 10 ≤ s.length then (if lastOK C.fs (tokP s h) = true then
   (if (prinC C (byteP s 8) (tokP s h) (byteP s 9)).1 = 0 then rprins n (prinC C (byteP s 8) (tokP s h) (byteP s 9)).2 (s.drop 10) else none) else none) else none
def rRead (s : List UInt8) : Option PCat := match rslots 4 0 newC s with
 | none => none
 | some (C, r) => match rV r with
  | none => none
  | some (n, j) => if 16 < n ∨ (r.drop j).length ≠ 10 * n then none else rprins n C (r.drop j)
theorem rnum_v {n : Nat} (h : n ≤ 1000) (t : List UInt8) : rnum (vNum n ++ t) = some (n, t) := by
 unfold rnum
 rw [rV_vNum (by omega)]
 simp only
 rw [if_neg (by omega), List.drop_left]
theorem rnum_some {s r : List UInt8} {n : Nat} (h : rnum s = some (n, r)) : s = vNum n ++ r ∧ n ≤ 1000 := by
 unfold rnum at h
 split at h
 ·simp at h
 rename_i m j hv
 split at h
 ·simp at h
 rename_i hle
 simp only [Option.some.injEq, Prod.mk.injEq] at h
 obtain ⟨rfl, rfl⟩ := h
 obtain ⟨t, h1, h2, _⟩ := rV_some hv
 refine ⟨?_, by omega⟩
 rw [h2]
 conv => rhs; rw [h1]
 rw [List.drop_left]
 exact h1
theorem rquo_v {q : Quo} (hf : fitQ q) (hk : 0 < q.k) (t : List UInt8) : rquo (vNum q.k.toNat ++ (vNum q.b.toNat ++ (vNum q.r.toNat ++ (vNum q.u.toNat ++ t)))) = some (q, t) := by
 have hr := hf.right hk
 have hle := hf.le
 have hu : 0 ≤ q.u ∧ q.u ≤ 100 := by
  unfold rightQ at hr
  simp only [Bool.and_eq_true, decide_eq_true_eq] at hr
  omega
 unfold rquo
 rw [rnum_v (n := q.k.toNat) (by omega)]
 simp only
 rw [rnum_v (n := q.b.toNat) (by omega)]
 simp only
 rw [rnum_v (n := q.r.toNat) (by omega)]
 simp only
 rw [rnum_v (n := q.u.toNat) (by omega)]
 simp only
 rw [Int.toNat_of_nonneg (by omega), Int.toNat_of_nonneg (by omega), Int.toNat_of_nonneg (by omega), Int.toNat_of_nonneg (by omega)]
theorem rquo_some {s r : List UInt8} {q : Quo} (h : rquo s = some (q, r)) : s = vNum q.k.toNat ++ (vNum q.b.toNat ++ (vNum q.r.toNat ++ (vNum q.u.toNat ++ r))) := by
 unfold rquo at h
 split at h
 ·simp at h
 rename_i a s1 h1
 split at h
 ·simp at h
 rename_i b s2 h2
 split at h
 ·simp at h
 rename_i c s3 h3
 split at h
 ·simp at h
 rename_i d s4 h4
 simp only [Option.some.injEq, Prod.mk.injEq] at h
 obtain ⟨rfl, rfl⟩ := h
 rw [(rnum_some h1).1, (rnum_some h2).1, (rnum_some h3).1, (rnum_some h4).1]
 simp only [Int.toNat_natCast]
theorem createC_zero {D : PCat} {i : Nat} {q : Quo} (h : (createC D i q).1 = 0) : createC D i q = (0, D.setQ i q) ∧ rightQ q = true ∧ i < 4 := by
 unfold createC at h ⊢
 split at h
 ·simp at h
 rename_i h1
 split at h
 ·simp at h
 split at h
 ·simp at h
 rename_i h2 h3
 rw [if_neg h1, if_neg h2, if_neg h3]
 refine ⟨rfl, ?_, by omega⟩
 cases hq : rightQ q with
 | true => rfl
 | false => exact absurd (Or.inr hq) h1
theorem setQ_no {D : PCat} {i : Nat} (hi : i < 4) (hd : D.q i = noQ) : D.setQ i noQ = D := by
 match i, hi with
 | 0, _ | 1, _ | 2, _ | 3, _ => cases D; simp only [PCat.q] at hd; subst hd; rfl
theorem rslot_inv {j i : Nat} {D C : PCat} {s r : List UInt8} (hi : i < 4) (hd : D.q i = noQ) (h : rslots (j + 1) i D s = some (C, r)) : ∃ q s', s = wQ q ++ s' ∧ rslots j (i + 1) (D.setQ i q) s' = some (C, r) := by
 match s, h with
 | [], h => simp [rslots] at h
 | c :: s, h =>
  unfold rslots at h
  split at h
  ·simp at h
  rename_i h1
  split at h
  ·rename_i h2
   subst h2
   split at h
   ·simp at h
   rename_i q s' hq
   split at h
   ·rename_i hc
    obtain ⟨g1, g2, g3⟩ := createC_zero hc
    refine ⟨q, s', ?_, by rw [g1] at h; exact h⟩
    unfold wQ
    rw [if_pos (right_pos g2), rquo_some hq]
    simp only [List.append_assoc, List.cons_append]
   ·simp at h
  ·rename_i h2
   refine ⟨noQ, s, ?_, by rw [setQ_no hi hd]; exact h⟩
   have hc : c = 0 := by
    have h3 : ¬ (1 : Nat) < c.toNat := fun e => h1 (UInt8.lt_iff_toNat_lt.2 e)
    have h4 : c.toNat ≠ 1 := fun e => h2 (UInt8.toNat_inj.1 e)
    exact UInt8.toNat_inj.1 (by show c.toNat = 0; omega)
   rw [hc]
   rfl
theorem rslots_inv {C : PCat} {s r : List UInt8} (h : rslots 4 0 newC s = some (C, r)) : s = wQ C.q0 ++ (wQ C.q1 ++ (wQ C.q2 ++ (wQ C.q3 ++ r))) ∧ C.fs = [] := by
 obtain ⟨a, s1, e1, h1⟩ := rslot_inv (by omega) rfl h
 obtain ⟨b, s2, e2, h2⟩ := rslot_inv (by omega) rfl h1
 obtain ⟨c, s3, e3, h3⟩ := rslot_inv (by omega) rfl h2
 obtain ⟨d, s4, e4, h4⟩ := rslot_inv (by omega) rfl h3
 simp only [rslots, Option.some.injEq, Prod.mk.injEq] at h4
 obtain ⟨rfl, rfl⟩ := h4
 rw [e1, e2, e3, e4]
 exact ⟨rfl, rfl⟩
theorem rslot_step {j i : Nat} {D : PCat} {q : Quo} (hf : fitQ q) (hi : i < 4) (hd : D.q i = noQ) (hs : (sumQ D 4 0 q).k ≤ 48 ∧ (sumQ D 4 0 q).b ≤ 1536 ∧ (sumQ D 4 0 q).r ≤ 200) (t : List UInt8) :
  rslots (j + 1) i D (wQ q ++ t) = rslots j (i + 1) (D.setQ i q) t := by
 by_cases hk : 0 < q.k
 ·have hr := hf.right hk
  unfold wQ
  rw [if_pos hk]
  have e1 : rquo (vNum q.k.toNat ++ (vNum q.b.toNat ++ (vNum q.r.toNat ++ vNum q.u.toNat)) ++ t) = some (q, t) := by
   simp only [List.append_assoc]
   exact rquo_v hf hk t
  have ec : createC D i q = (0, D.setQ i q) := by
   unfold createC
   rw [if_neg (by rw [hr]; simp; omega), if_neg (by rw [hd]; simp [noQ]), if_neg (by omega)]
  rw [List.cons_append]
  show (if (1 : UInt8) < 1 then _ else if (1 : UInt8) = 1 then _ else _) = _
  rw [if_neg (by decide), if_pos rfl, e1]
  simp only
  rw [ec, if_pos rfl]
 ·have hz := hf.zero hk
  subst hz
  rw [setQ_no hi hd]
  rfl
theorem rslots_up {C : PCat} (h : OkC C) (t : List UInt8) : rslots 4 0 newC (wQ C.q0 ++ (wQ C.q1 ++ (wQ C.q2 ++ (wQ C.q3 ++ t)))) = some ({ C with fs := [] }, t) := by
 have f0 := h.fit 0 (by omega)
 have f1 := h.fit 1 (by omega)
 have f2 := h.fit 2 (by omega)
 have f3 := h.fit 3 (by omega)
 have l0 := f0.le
 have l1 := f1.le
 have l2 := f2.le
 have l3 := f3.le
 have hs := h.sums
 simp only [sum_k, sum_b, sum_r, noQ_k, noQ_b, noQ_r, PCat.q] at hs l0 l1 l2 l3
 rw [rslot_step (q := C.q0) (D := newC) f0 (by omega) rfl (by simp only [sum_k, sum_b, sum_r, newC, noQ_k, noQ_b, noQ_r]; omega),
  rslot_step (q := C.q1) f1 (by omega) rfl (by simp only [sum_k, sum_b, sum_r, newC, PCat.setQ, noQ_k, noQ_b, noQ_r]; omega),
  rslot_step (q := C.q2) f2 (by omega) rfl (by simp only [sum_k, sum_b, sum_r, newC, PCat.setQ, noQ_k, noQ_b, noQ_r]; omega),
  rslot_step (q := C.q3) f3 (by omega) rfl (by simp only [sum_k, sum_b, sum_r, newC, PCat.setQ, noQ_k, noQ_b, noQ_r]; omega)]
 rfl
theorem prinC_zero {D : PCat} {s r : Nat} {t : Tok} (h : (prinC D s t r).1 = 0) : prinC D s t r = (0, { D with fs := insT (t, s, r) D.fs }) := by
 unfold prinC at h ⊢
 split at h
 ·simp at h
 split at h
 case isFalse => simp at h
 split at h
 ·simp at h
 split at h
 ·simp at h
 rename_i h1 h2 h3 h4
 rw [if_neg h1, if_pos h2, if_neg h3, if_neg h4]
theorem last_lt {fs : List Ent} (h : fs.Pairwise LtT) {t : Tok} (hl : lastOK fs t = true) : ∀ y ∈ fs, y.1.1 < t.1 := by
 intro y hy
 unfold lastOK at hl
 cases hg : fs.getLast? with
 | none => rw [List.getLast?_eq_none_iff] at hg; subst hg; simp at hy
 | some x =>
  rw [hg] at hl
  have hx : x.1.1 < t.1 := by simpa using hl
  obtain ⟨ys, rfl⟩ := List.getLast?_eq_some_iff.1 hg
  rw [List.pairwise_append] at h
  rcases List.mem_append.1 hy with hy | hy
  ·exact List.lt_trans (h.2.2 y hy x (by simp)) hx
  ·simp at hy; subst hy; exact hx
theorem wP_of (s : List UInt8) (h : 10 ≤ s.length) : wP (tokP s h, byteP s 8, byteP s 9) ++ s.drop 10 = s := by
 match s, h with
 | a0 :: a1 :: a2 :: a3 :: a4 :: a5 :: a6 :: a7 :: a8 :: a9 :: s, _ =>
  show a0 :: a1 :: a2 :: a3 :: a4 :: a5 :: a6 :: a7 :: UInt8.ofNat a8.toNat :: UInt8.ofNat a9.toNat :: s = _
  rw [UInt8.ofNat_toNat, UInt8.ofNat_toNat]
theorem rprins_inv : ∀ (n : Nat) (D : PCat) (s : List UInt8) {C : PCat}, OkC D → s.length = 10 * n → rprins n D s = some C → ∃ suf : List Ent, suf.length = n ∧ s = suf.flatMap wP ∧ C = { D with fs := D.fs ++ suf } ∧ OkC C
 | 0, D, s, C, hD, hl, h => by
  simp only [rprins, Option.some.injEq] at h
  subst h
  have : s = [] := List.eq_nil_of_length_eq_zero (by omega)
  exact ⟨[], rfl, by rw [this]; rfl, by rw [List.append_nil], hD⟩
 | n + 1, D, s, C, hD, hl, h => by
  unfold rprins at h
  split at h
  case isFalse => simp at h
  rename_i hs
  split at h
  case isFalse => simp at h
  rename_i hlast
  split at h
  case isFalse => simp at h
  rename_i hz
  have he := prinC_zero hz
  rw [insT_last (x := (tokP s hs, byteP s 8, byteP s 9)) (fun y hy => last_lt hD.sorted hlast y hy)] at he
  have hok := (prinC_ok hD (s := byteP s 8) (t := tokP s hs) (r := byteP s 9)).1
  rw [he] at h hok
  obtain ⟨suf, g1, g2, g3, g4⟩ := rprins_inv n _ (s.drop 10) hok (by rw [List.length_drop]; omega) h
  refine ⟨(tokP s hs, byteP s 8, byteP s 9) :: suf, by rw [List.length_cons, g1], ?_, by rw [g3]; simp, g4⟩
  rw [List.flatMap_cons, ← g2, wP_of]
theorem rprins_up {C : PCat} (h : OkC C) : ∀ (suf pre : List Ent), pre ++ suf = C.fs → rprins suf.length { C with fs := pre } (suf.flatMap wP) = some C
 | [], pre, e => by
  rw [List.append_nil] at e
  show some ({ C with fs := pre } : PCat) = _
  rw [e]
 | x :: suf, pre, e => by
  have hx : x ∈ C.fs := by rw [← e]; simp
  obtain ⟨g1, g2, g3, g4, g5⟩ := h.ent x hx
  rw [List.flatMap_cons]
  have hl : 10 ≤ (wP x ++ suf.flatMap wP).length := by rw [List.length_append, wP_len]; omega
  show rprins (suf.length + 1) _ _ = _
  unfold rprins
  rw [dif_pos hl]
  have et : tokP (wP x ++ suf.flatMap wP) hl = x.1 := Subtype.ext (wP_take x _)
  have hlast : lastOK pre x.1 = true := by
   unfold lastOK
   cases hg : pre.getLast? with
   | none => rfl
   | some y =>
    have hy : y ∈ pre := List.mem_of_getLast? hg
    have hs := h.sorted
    rw [← e, List.pairwise_append] at hs
    exact decide_eq_true (hs.2.2 y hy x (by simp))
  rw [et, wP_8 x _ (by omega), wP_9 x _ (by omega), wP_drop, prin_next h e, if_pos hlast, if_pos rfl]
  exact rprins_up h suf (pre ++ [x]) (by rw [← e]; simp)
theorem rslots_ok : ∀ (j i : Nat) (D : PCat) (s : List UInt8) {C : PCat} {r : List UInt8}, OkC D → rslots j i D s = some (C, r) → OkC C
 | 0, i, D, s, C, r, h, e => by
  simp only [rslots, Option.some.injEq, Prod.mk.injEq] at e
  rw [← e.1]; exact h
 | j + 1, i, D, [], C, r, h, e => by simp [rslots] at e
 | j + 1, i, D, c :: s, C, r, h, e => by
  unfold rslots at e
  split at e
  ·simp at e
  split at e
  ·split at e
   ·simp at e
   ·split at e
    ·exact rslots_ok j (i + 1) _ _ (createC_ok h).1 e
    ·simp at e
  ·exact rslots_ok j (i + 1) _ _ h e
theorem rread_some {s : List UInt8} {C : PCat} (e : rRead s = some C) : OkC C ∧ s = writeC C := by
 unfold rRead at e
 split at e
 ·simp at e
 rename_i D r hd
 split at e
 ·simp at e
 rename_i n j hv
 split at e
 ·simp at e
 rename_i hc
 obtain ⟨g1, g2⟩ := rslots_inv hd
 obtain ⟨t, h1, h2, _⟩ := rV_some hv
 have ht : r.drop j = t := by
  rw [h2, h1]
  exact List.drop_left
 rw [ht] at e hc
 obtain ⟨suf, q1, q2, q3, q4⟩ := rprins_inv n D t (rslots_ok 4 0 newC s ok_new hd) (by omega) e
 refine ⟨q4, ?_⟩
 rw [g2, List.nil_append] at q3
 rw [q3]
 unfold writeC
 simp only
 rw [g1, h1, q1, q2]
theorem rread_write {C : PCat} (h : OkC C) : rRead (writeC C) = some C := by
 have hm := many_le h
 have hl : (C.fs.flatMap wP).length = 10 * C.fs.length := by
  have : ∀ fs : List Ent, (fs.flatMap wP).length = 10 * fs.length := by
   intro fs
   induction fs with
   | nil => rfl
   | cons x fs ih => rw [List.flatMap_cons, List.length_append, wP_len, ih, List.length_cons]; omega
  exact this _
 unfold rRead writeC
 rw [rslots_up h]
 simp only
 rw [rV_vNum (by omega)]
 simp only
 rw [List.drop_left, if_neg (by omega)]
 exact rprins_up h C.fs [] rfl
theorem read_same (s : List UInt8) : rRead s = readC s := by
 cases h : readC s with
 | none =>
  cases h' : rRead s with
  | none => rfl
  | some C =>
   obtain ⟨h1, rfl⟩ := rread_some h'
   rw [read_write h1] at h; simp at h
 | some C =>
  obtain ⟨h1, rfl⟩ := read_some h
  exact rread_write h1
def pV (a : Nat × Nat) : AVal := .agg [.int .u8 (a.1 : Int), .int .u8 (a.2 : Int)]
def esV (fs : List Ent) : List (Tok × AVal) := fs.map fun x => (x.1, pV x.2)
theorem Keeps2.dead (H : Heap) : ∀ k, Keeps2 H (pushDead k H) := fun k => ⟨by rw [pushDead_next]; omega, fun b hb => pushDead_old k hb⟩
section
variable {H : Heap} {b m : Nat} {C : PCat}
theorem map_perm {fs : List Ent} (h : MapAt tokK H m encP fs) : ∃ vs clk, H.get m = some (.map (encE tokK vs) clk) ∧ vs.Perm (esV fs) ∧ (vs.map (·.1)).Nodup := by
 obtain ⟨vs, clk, h1, h2, h3⟩ := h.ex
 have hn : (vs.map (·.1)).Nodup := h2.nodup_iff.2 h.nodup
 have nd : ∀ {β : Type} {l : List (Tok × β)}, (l.map (·.1)).Nodup → l.Nodup := fun {β l} h => by
  rw [List.Nodup, List.pairwise_map] at h
  exact h.imp fun hab e => hab (by rw [e])
 have hn2 : ((esV fs).map (·.1)).Nodup := by
  unfold esV
  rw [List.map_map]
  exact h.nodup
 refine ⟨vs, clk, h1, perm_of (nd hn) (nd hn2) fun ⟨k, v⟩ => ?_, hn⟩
 constructor
 ·intro hv
  have hk : k ∈ fs.map (·.1) := h2.mem_iff.1 (List.mem_map.2 ⟨_, hv, rfl⟩)
  obtain ⟨a, ha⟩ := mem_keys.1 hk
  have := h3 k v a hv ha
  unfold encP at this
  subst this
  exact List.mem_map.2 ⟨(k, a), ha, rfl⟩
 ·intro hv
  obtain ⟨⟨k', a⟩, ha, he⟩ := List.mem_map.1 hv
  simp only [Prod.mk.injEq] at he
  obtain ⟨rfl, rfl⟩ := he
  have hk : k' ∈ vs.map (·.1) := h2.mem_iff.2 (List.mem_map.2 ⟨_, ha, rfl⟩)
  obtain ⟨v, hv'⟩ := mem_keys.1 hk
  have := h3 k' v a hv' ha
  unfold encP at this
  subst this
  exact hv'
theorem key_eq (a b : Tok) : keyEq true catm.tokLs (.agg (encB a.1)) (.agg (encB b.1)) = some (decide (a = b)) := tokK.eq a b
theorem apart_enc : ∀ {vs : List (Tok × AVal)}, (vs.map (·.1)).Nodup → catm.apartE (encE tokK vs) = true
 | [], _ => rfl
 | x :: vs, h => by
  rw [List.map_cons, List.nodup_cons] at h
  show (((encE tokK vs).all fun f => keyEq true catm.tokLs (.agg (encB x.1.1)) f.1 == some false && keyEq true catm.tokLs f.1 (.agg (encB x.1.1)) == some false) && catm.apartE (encE tokK vs)) = true
  rw [apart_enc h.2, Bool.and_true, List.all_eq_true]
  intro e he
  obtain ⟨y, hy, rfl⟩ := List.mem_map.1 he
  have hne : x.1 ≠ y.1 := fun e => h.1 (List.mem_map.2 ⟨y, hy, e.symm⟩)
  show (keyEq true catm.tokLs (.agg (encB x.1.1)) (.agg (encB y.1.1)) == some false && keyEq true catm.tokLs (.agg (encB y.1.1)) (.agg (encB x.1.1)) == some false) = true
  rw [key_eq, key_eq, decide_eq_false hne, decide_eq_false (Ne.symm hne)]
  rfl
theorem es_ok {fs : List Ent} {vs : List (Tok × AVal)} (h : vs.Perm (esV fs)) (hn : (vs.map (·.1)).Nodup) : catm.esOK (encE tokK vs) = true := by
 unfold catm.esOK
 rw [apart_enc hn, Bool.and_true, List.all_eq_true]
 intro e he
 obtain ⟨y, hy, rfl⟩ := List.mem_map.1 he
 obtain ⟨x, hx, rfl⟩ := List.mem_map.1 (h.mem_iff.1 hy)
 show ((catm.slotOf (pV x.2)).isSome && keyEq true catm.tokLs (.agg (encB x.1.1)) (.agg (encB x.1.1)) == some true && catm.isTok (.agg (encB x.1.1))) = true
 rw [key_eq]
 show ((true && _) && ((encB x.1.1).length == 8 && (encB x.1.1).all (·.one))) = true
 rw [encB_one, encB_len, x.1.2]
 simp
theorem slot_beq (a s : Nat) (r : Nat) : (catm.slotOf (pV (a, r)) == some (s : Int)) = decide (a = s) := by
 show (some (a : Int) == some (s : Int)) = _
 by_cases h : a = s
 ·simp [h]
 ·have : ¬ (a : Int) = (s : Int) := by omega
  simp [h, this]
theorem many_c {n lim s : Nat} (h : CatAt H b m C) (hl : C.fs.length < 1000) : Ahs.runT ap (n + 1) lim (.fn 73) [.ptr (some (b, 0)), .int .u8 (s : Nat)] H = some (.int .i64 (manyC C.fs s : Nat), pushDead C.fs.length H) := by
 rw [q73]
 obtain ⟨vs, clk, h1, h2, h3⟩ := map_perm h.map
 have hlen : (encE tokK vs).length = C.fs.length := by
  unfold encE
  rw [List.length_map, h2.length_eq]
  unfold esV
  rw [List.length_map]
 have hcount : (encE tokK vs).countP (fun e => catm.slotOf e.2 == some (s : Int)) = manyC C.fs s := by
  unfold encE
  rw [List.countP_map, h2.countP_eq]
  unfold esV manyC
  rw [List.countP_map]
  apply List.countP_congr
  intro x _
  show (catm.slotOf (pV x.2) == some (s : Int)) = true ↔ _
  rw [slot_beq]
 unfold catm.g73
 have e16 : (catCells C m)[16]? = some (.map (some m)) := rfl
 simp only [h.cells, e16, mapEs, h1, es_ok h2 h3, hlen, hl, decide_true, Bool.and_self, if_true, hcount]
def rmE (fs : List Ent) (s : Nat) : List Ent := fs.filter fun x => !decide (x.2.1 = s)
end
theorem ins_put {fs : List Ent} {t : Tok} {s r : Nat} (h : (fs.map (·.1)).Nodup) (hn : t ∉ fs.map (·.1)) : PutF fs t (s, r) (insT (t, s, r) fs) := by
 have hp := insT_perm (t, s, r) fs
 refine ⟨?_, fun k a => ?_⟩
 ·rw [(hp.map (·.1)).nodup_iff, List.map_cons, List.nodup_cons]
  exact ⟨hn, h⟩
 ·rw [hp.mem_iff, List.mem_cons]
  simp only [Prod.mk.injEq]
  constructor
  ·rintro (⟨rfl, rfl⟩ | q)
   ·exact .inl ⟨rfl, rfl⟩
   ·exact .inr ⟨fun e => hn (List.mem_map.2 ⟨_, q, e⟩), q⟩
  ·rintro (⟨rfl, rfl⟩ | ⟨_, q⟩)
   ·exact .inl ⟨rfl, rfl⟩
   ·exact .inr q
theorem plain_encB (l : List UInt8) : (encB l).all plainV = true := by
 unfold encB
 rw [List.all_eq_true]
 intro x hx
 obtain ⟨c, _, rfl⟩ := List.mem_map.1 hx
 rfl
theorem tok_eqv (a b : Tok) : eqvO false (.cells [(.int .u8), (.int .u8), (.int .u8), (.int .u8), (.int .u8), (.int .u8), (.int .u8), (.int .u8)]) (.agg (encB a.1)) (.agg (encB b.1)) = some (.bool (decide (a = b))) := by
 rw [eqvO_cells]
 have h := cells_bytes a.1 b.1 (by rw [a.2, b.2])
 rw [a.2] at h
 have h : cellsEq [(.int .u8), (.int .u8), (.int .u8), (.int .u8), (.int .u8), (.int .u8), (.int .u8), (.int .u8)] (encB a.1) (encB b.1) = _ := h
 rw [h]
 simp [Subtype.ext_iff]
section
variable {H : Heap} {b m : Nat} {C : PCat}
theorem kept_tok {g : Option (AVal × Bool)} {G G' : Heap} {c : Nat} {t : Tok} (hk : Keeps2 G G') (hc : G.cells c = some (encB t.1)) : keptG g G G' [.ptr (some (c, 0))] := by
 refine keptG_of hk fun v hv b hb => ?_
 simp only [List.mem_singleton] at hv
 subst hv
 simp only [blkOf, Option.some.injEq] at hb
 subst hb
 exact ⟨_, hc, plain_encB _⟩
theorem prin_c {n lim s r : Nat} {t : Tok} (h : CatAt H b m C) (hok : OkC C) (hlb : lim ≤ b) (hlm : lim ≤ m) (hlim : lim ≤ H.next) (hs : s < 256) (hr : r < 256) :
  ∃ v H', Ahs.runT ap (n + 2) lim (.fn 23) [.ptr (some (b, 0)), .int .u8 (s : Nat), .agg (encB t.1), .int .u8 (r : Nat)] H = some (v, H') ∧ v = .int .u8 (prinC C s t r).1 ∧ CatAt H' b m (prinC C s t r).2 ∧ Fram (cft b m) H H' := by
 refine F23_run a23 ?_
 unfold F23
 have k1 : Keeps2 H (H.push (.cells (encB t.1))) := .push _ _
 have x1 : (H.push (.cells (encB t.1))).cells H.next = some (encB t.1) := cells_push_new _ _
 have n1 : (H.push (.cells (encB t.1))).next = H.next + 1 := Heap.next_push _ _
 generalize hG : H.push (.cells (encB t.1)) = G at *
 have h1 := h.keep k1
 have tl : aload G (some 8) (.ptr (some (H.next, 0))) = some (.agg (encB t.1)) := aload_all x1 (by rw [encB_len, t.2])
 have kr : ∀ g, keptG g G G [.ptr (some (H.next, 0))] := fun g => kept_tok (.refl _) x1
 by_cases h4 : 4 ≤ s
 ·have d4 : decide ((4 : Int) ≤ (s : Int)) = true := dT (by omega)
  rw [show prinC C s t r = (11, C) by unfold prinC; rw [if_pos (.inl h4)]]
  (repeat (with_reducible first | ((first | apply bindP_intro | apply bind2_intro); (focus (first | rfl | (simp only [walkS, reduceIte, tok_cells, encB_one, hG, cnone_c h1, d4] <;> rfl)))) | apply cond_t | apply cond_f))
  refine ⟨kr _, ?_⟩
  (repeat (with_reducible first | ((first | apply bindP_intro | apply bind2_intro); (focus (first | rfl | (simp only [walkS, reduceIte] <;> rfl)))) | apply cond_t | apply cond_f))
  exact ⟨rfl, h1, .of k1⟩
 have d4 : decide ((4 : Int) ≤ (s : Int)) = false := dF (by omega)
 by_cases hr1 : r < 1
 ·have d1 : decide ((r : Int) < 1) = true := dT (by omega)
  rw [show prinC C s t r = (11, C) by unfold prinC; rw [if_pos (.inr (.inl hr1))]]
  (repeat (with_reducible first | ((first | apply bindP_intro | apply bind2_intro); (focus (first | rfl | (simp only [walkS, reduceIte, tok_cells, encB_one, hG, cnone_c h1, d4, d1] <;> rfl)))) | apply cond_t | apply cond_f))
  refine ⟨kr _, ?_⟩
  (repeat (with_reducible first | ((first | apply bindP_intro | apply bind2_intro); (focus (first | rfl | (simp only [walkS, reduceIte] <;> rfl)))) | apply cond_t | apply cond_f))
  exact ⟨rfl, h1, .of k1⟩
 have d1 : decide ((r : Int) < 1) = false := dF (by omega)
 by_cases hr3 : 3 < r
 ·have d3 : decide ((3 : Int) < (r : Int)) = true := dT (by omega)
  rw [show prinC C s t r = (11, C) by unfold prinC; rw [if_pos (.inr (.inr (.inl hr3)))]]
  (repeat (with_reducible first | ((first | apply bindP_intro | apply bind2_intro); (focus (first | rfl | (simp only [walkS, reduceIte, tok_cells, encB_one, hG, cnone_c h1, d4, d1, d3] <;> rfl)))) | apply cond_t | apply cond_f))
  refine ⟨kr _, ?_⟩
  (repeat (with_reducible first | ((first | apply bindP_intro | apply bind2_intro); (focus (first | rfl | (simp only [walkS, reduceIte] <;> rfl)))) | apply cond_t | apply cond_f))
  exact ⟨rfl, h1, .of k1⟩
 have d3 : decide ((3 : Int) < (r : Int)) = false := dF (by omega)
 obtain ⟨_, G2, r2, rfl, k2⟩ := op_c (H := G) (n := n) (lim := lim) (by omega)
 have h2 := h1.keep k2
 have hke := tok_eqv t opTok
 by_cases hop : t = opTok
 ·rw [show prinC C s t r = (11, C) by unfold prinC; rw [if_pos (.inr (.inr (.inr hop)))]]
  rw [decide_eq_true hop] at hke
  (repeat (with_reducible first | ((first | apply bindP_intro | apply bind2_intro); (focus (first | rfl | (simp only [walkS, reduceIte, tok_cells, encB_one, hG, cnone_c h1, d4, d1, d3, tl, r2] <;> rfl)))) | apply cond_t | apply cond_f))
  refine ⟨kept_tok k2 x1, ?_⟩
  (repeat (with_reducible first | ((first | apply bindP_intro | apply bind2_intro); (focus (first | rfl | (simp only [walkS, reduceIte, hke] <;> rfl)))) | apply cond_t | apply cond_f))
  exact ⟨rfl, h2, .of (k1.trans k2)⟩
 have hno : ¬ (4 ≤ s ∨ r < 1 ∨ 3 < r ∨ t = opTok) := by rintro (q | q | q | q) <;> first | omega | exact hop q
 rw [decide_eq_false hop] at hke
 have ht := fun n => there_c (n := n) (lim := lim) h2 (s := s) (by omega)
 have k2n := k2.next
 by_cases hk : 0 < (C.q s).k
 case neg =>
  have dk : decide (0 < (C.q s).k) = false := dF hk
  rw [show prinC C s t r = (1, C) by unfold prinC; rw [if_neg hno, if_neg hk]]
  (repeat (with_reducible first | ((first | apply bindP_intro | apply bind2_intro); (focus (first | rfl | (simp only [walkS, reduceIte, tok_cells, encB_one, hG, cnone_c h1, d4, d1, d3, tl, r2] <;> rfl)))) | apply cond_t | apply cond_f))
  refine ⟨kept_tok k2 x1, ?_⟩
  (repeat (with_reducible first | ((first | apply bindP_intro | apply bind2_intro); (focus (first | rfl | (simp only [walkS, reduceIte, hke, ht, dk] <;> rfl)))) | apply cond_t | apply cond_f))
  exact ⟨rfl, h2, .of (k1.trans k2)⟩
 have dk : decide (0 < (C.q s).k) = true := dT hk
 have tl2 := aload_keep k2 tl
 have hw := look_tok h2 t
 have hst : astore lim (G2.push (.cells [(.int .u8 0), (.int .u8 0)])) 2 (.ptr (some (G2.next, 0))) (.agg [.int .u8 ((whoC C t).1 : Int), .int .u8 ((whoC C t).2.1 : Int)]) = some (G2.push (.cells [.int .u8 ((whoC C t).1 : Int), .int .u8 ((whoC C t).2.1 : Int)])) := astore_new (cs := [(.int .u8 0), (.int .u8 0)]) (x := .agg [.int .u8 ((whoC C t).1 : Int), .int .u8 ((whoC C t).2.1 : Int)]) (by omega) rfl rfl rfl
 have k3 : Keeps2 G2 (G2.push (.cells [.int .u8 ((whoC C t).1 : Int), .int .u8 ((whoC C t).2.1 : Int)])) := .push _ _
 cases hc : (whoC C t).2.2 with
 | true =>
  rw [hc] at hw
  rw [show prinC C s t r = (10, C) by unfold prinC; rw [if_neg hno, if_pos hk, hc, if_pos rfl]]
  (repeat (with_reducible first | ((first | apply bindP_intro | apply bind2_intro); (focus (first | rfl | (simp only [walkS, reduceIte, tok_cells, encB_one, hG, cnone_c h1, d4, d1, d3, tl, r2] <;> rfl)))) | apply cond_t | apply cond_f))
  refine ⟨kept_tok k2 x1, ?_⟩
  (repeat (with_reducible first | ((first | apply bindP_intro | apply bind2_intro); (focus (first | rfl | (simp only [walkS, reduceIte, hke, ht, dk, map_load h2, tl2, hw, hst] <;> rfl)))) | apply cond_t | apply cond_f))
  exact ⟨rfl, h2.keep k3, .of ((k1.trans k2).trans k3)⟩
 | false =>
  rw [hc] at hw
  have h3 := h2.keep k3
  have hl := many_le hok
  have hm := fun n => many_c (n := n) (lim := lim) (s := s) h3 (by omega)
  have k4 : Keeps2 (G2.push (.cells [.int .u8 ((whoC C t).1 : Int), .int .u8 ((whoC C t).2.1 : Int)])) (pushDead C.fs.length (G2.push (.cells [.int .u8 ((whoC C t).1 : Int), .int .u8 ((whoC C t).2.1 : Int)]))) := Keeps2.dead _ _
  have h4 := h3.keep k4
  have tl4 := aload_keep k4 (aload_keep k3 tl2)
  by_cases hmm : 4 ≤ manyC C.fs s
  ·have dm : decide ((4 : Int) ≤ ((manyC C.fs s : Nat) : Int)) = true := dT (by omega)
   rw [show prinC C s t r = (9, C) by unfold prinC; rw [if_neg hno, if_pos hk, hc, if_neg (by simp), if_pos hmm]]
   (repeat (with_reducible first | ((first | apply bindP_intro | apply bind2_intro); (focus (first | rfl | (simp only [walkS, reduceIte, tok_cells, encB_one, hG, cnone_c h1, d4, d1, d3, tl, r2] <;> rfl)))) | apply cond_t | apply cond_f))
   refine ⟨kept_tok k2 x1, ?_⟩
   (repeat (with_reducible first | ((first | apply bindP_intro | apply bind2_intro); (focus (first | rfl | (simp only [walkS, reduceIte, hke, ht, dk, map_load h2, tl2, hw, hst, hm, dm] <;> rfl)))) | apply cond_t | apply cond_f))
   exact ⟨rfl, h4, .of (((k1.trans k2).trans k3).trans k4)⟩
  ·have dm : decide ((4 : Int) ≤ ((manyC C.fs s : Nat) : Int)) = false := dF (by omega)
   rw [show prinC C s t r = (0, { C with fs := insT (t, s, r) C.fs }) by unfold prinC; rw [if_neg hno, if_pos hk, hc, if_neg (by simp), if_neg hmm]]
   have hb : buildO [(.int .u8 0), (.int .u8 0)] [(0, 1, .int .u8 (s : Nat)), (1, 1, .int .u8 (r : Nat))] = some (.agg [.int .u8 (s : Int), .int .u8 (r : Int)]) := rfl
   obtain ⟨x, hx, hq⟩ := h4.map.update (lim := lim) hlm t (v := .agg [.int .u8 (s : Int), .int .u8 (r : Int)]) (a := (s, r)) rfl
   have hx : amapUpdate lim _ true u8x8 (.map (some m)) (.agg (encB t.1)) (.agg [.int .u8 (s : Int), .int .u8 (r : Int)]) = _ := hx
   (repeat (with_reducible first | ((first | apply bindP_intro | apply bind2_intro); (focus (first | rfl | (simp only [walkS, reduceIte, tok_cells, encB_one, hG, cnone_c h1, d4, d1, d3, tl, r2] <;> rfl)))) | apply cond_t | apply cond_f))
   refine ⟨kept_tok k2 x1, ?_⟩
   (repeat (with_reducible first | ((first | apply bindP_intro | apply bind2_intro); (focus (first | rfl | (simp only [walkS, reduceIte, hke, ht, dk, map_load h2, tl2, hw, hst, hm, dm, map_load h4, tl4, hb, hx] <;> rfl)))) | apply cond_t | apply cond_f))
   refine ⟨rfl, ⟨?_, hq _ (ins_put h.map.nodup (who_none hc))⟩, ?_⟩
   ·exact cells_set_other h4.cells h4.ne
   ·exact (Fram.of (S := cft b m) (((k1.trans k2).trans k3).trans k4)).trans (Fram.set (S := cft b m) (.inr rfl)) fun _ _ e => e
end
theorem str_blk {H : Heap} {b : Nat} {l : List UInt8} (h : H.cells b = some (encB l)) (k : Nat) : abytesToStr H (.sl (some (b, 0)) l.length (.ex k)) = some (.str l) := by
 unfold abytesToStr
 simp only [h, Option.bind_eq_bind, Option.bind_some]
 have : Ahs.cut (encB l) 0 l.length = some (encB l) := by
  unfold Ahs.cut
  rw [if_pos (by rw [encB_len]; omega), List.drop_zero, List.take_of_length_le (by rw [encB_len]; omega)]
 rw [this]
 simp only [Option.bind_some, bytes_enc]
def wRest (C : PCat) : Nat → Nat → List UInt8
 | 0, _ => []
 | j + 1, i => wQ (C.q i) ++ wRest C j (i + 1)
theorem wQ_len {q : Quo} (h : fitQ q) : (wQ q).length ≤ 41 := by
 unfold wQ
 split
 ·rename_i hk
  have hr := h.right hk
  have hle := h.le
  have hu : 0 ≤ q.u ∧ q.u ≤ 100 := by
   unfold rightQ at hr
   simp only [Bool.and_eq_true, decide_eq_true_eq] at hr
   omega
  have h1 := vNum_len (n := q.k.toNat) (by omega)
  have h2 := vNum_len (n := q.b.toNat) (by omega)
  have h3 := vNum_len (n := q.r.toNat) (by omega)
  have h4 := vNum_len (n := q.u.toNat) (by omega)
  simp only [List.length_cons, List.length_append]
  omega
 ·simp
theorem flat_wP_len (fs : List Ent) : (fs.flatMap wP).length = 10 * fs.length := by
 induction fs with
 | nil => rfl
 | cons x fs ih => rw [List.flatMap_cons, List.length_append, wP_len, ih, List.length_cons]; omega
theorem write_len {C : PCat} (h : OkC C) : 5 ≤ (writeC C).length ∧ (writeC C).length ≤ 400 := by
 have h0 := wQ_len (h.fit 0 (by omega))
 have h1 := wQ_len (h.fit 1 (by omega))
 have h2 := wQ_len (h.fit 2 (by omega))
 have h3 := wQ_len (h.fit 3 (by omega))
 have hm := many_le h
 have h4 := vNum_len (n := C.fs.length) (by omega)
 have pos : ∀ q, 1 ≤ (wQ q).length := fun q => by unfold wQ; split <;> simp
 have p0 := pos C.q0
 have p1 := pos C.q1
 have p2 := pos C.q2
 have p3 := pos C.q3
 have p4 : 1 ≤ (vNum C.fs.length).length := by
  have := vNum_ne C.fs.length
  exact List.length_pos_iff.2 this
 have h5 := flat_wP_len C.fs
 simp only [PCat.q] at h0 h1 h2 h3
 unfold writeC
 simp only [List.length_append]
 omega
section
variable {H : Heap} {b m : Nat} {C : PCat}
theorem keysT_c {n lim : Nat} : Ahs.runT ap (n + 1) lim (.fn 68) [.map (some m)] H = some (.fn 103 [] [.ptr (some (H.next, 0))], H.push (.cells [.map (some m)])) := by
 refine run_eqn (F68_run a68 ?_)
 unfold F68
 have hbox : (AVal.map (some m)).cells = [.map (some m)] := rfl
 have hone : ([AVal.map (some m)].all fun v => v.one) = true := rfl
 (repeat (with_reducible first | ((first | apply bindP_intro | apply bind2_intro); (focus (first | rfl | (simp only [walkS, reduceIte, hbox, hone] <;> rfl)))) | apply cond_t | apply cond_f))
 exact ⟨rfl, rfl⟩
theorem decT_b (t : Tok) : catm.dTok (.agg (encB t.1)) = some t := catm.decT_enc t
theorem sorted_c {n lim : Nat} {fs : List Ent} (h : MapAt tokK H m encP fs) (hs : fs.Pairwise LtT) (hl : fs.length ≤ 1000) {bx : Nat} (hb : H.cells bx = some [.map (some m)]) :
  ∃ v H', Ahs.runT ap (n + 1) lim (.fn 67) [.fn 103 [] [.ptr (some (bx, 0))], .fn 69 [] []] H = some (v, H') ∧ Sl H' 8 v (fs.map fun x => encB x.1.1) ∧ Keeps2 H H' := by
 rw [q67]
 obtain ⟨vs, clk, h1, h2, h3⟩ := map_perm h
 have hld : aload H none (.ptr (some (bx, 0))) = some (.map (some m)) := by rw [aload_one hb]; rfl
 have hlen : (encE tokK vs).length = fs.length := by
  unfold encE
  rw [List.length_map, h2.length_eq]
  unfold esV
  rw [List.length_map]
 have hall : ((encE tokK vs).all catm.isTokE && Nat.ble (encE tokK vs).length 1000000) = true := by
  rw [Bool.and_eq_true]
  refine ⟨?_, Nat.ble_eq_true_of_le (by omega)⟩
  rw [List.all_eq_true]
  intro e he
  obtain ⟨x, _, rfl⟩ := List.mem_map.1 he
  show (catm.dTok (.agg (encB x.1.1))).isSome = true
  rw [decT_b]; rfl
 have hkeys : catm.keysE (encE tokK vs) = vs.map (·.1) := by
  unfold catm.keysE encE
  rw [List.map_map]
  apply List.map_congr_left
  intro x _
  show (catm.dTok (.agg (encB x.1.1))).getD _ = _
  rw [decT_b]; rfl
 have hsort : catm.sortK (catm.keysE (encE tokK vs)) = fs.map (·.1) := by
  rw [hkeys]
  refine (catm.sortK_unique ?_ ?_).symm
  ·rw [List.pairwise_map]
   exact hs.imp fun {a b} hab => List.le_of_lt hab
  ·have := (h2.map (·.1)).symm
   unfold esV at this
   rw [List.map_map] at this
   exact this
 unfold catm.g67
 simp only [hld, mapEs, h1, hall, if_true]
 generalize hes : encE tokK vs = es at *
 cases es with
 | nil =>
  have h0 : fs = [] := List.eq_nil_of_length_eq_zero (by simpa using hlen.symm)
  subst h0
  exact ⟨_, _, rfl, Sl.nil _ _, Keeps2.dead _ _⟩
 | cons e es =>
  refine ⟨_, _, rfl, ?_, (Keeps2.dead _ _).trans (.push _ _)⟩
  rw [hsort]
  have hfl : (fs.map fun x => encB x.1.1).flatten = catm.encTs (fs.map (·.1)) := by
   unfold catm.encTs catm.rowB
   rw [List.flatMap_def]
   clear hs h h1 h2 h3 hlen hall hkeys hsort hes hl hld
   induction fs with
   | nil => rfl
   | cons x fs ih => rw [List.map_cons, List.flatten_cons, ih, List.map_cons, List.map_cons, List.flatten_cons, encB_app]
  have hll : (catm.encTs (fs.map (·.1))).length = fs.length * 8 := by rw [catm.encTs_len, List.length_map]
  have hnb : (pushDead (4 * (e :: es).length + 1) H).next = H.next + (4 * (e :: es).length + 1) := pushDead_next _ _
  refine ⟨.inr ⟨_, 0, .op 8 0, catm.encTs (fs.map (·.1)), by rw [List.length_map, hlen], rfl, ?_, ?_, ?_⟩, fun x hx => ?_⟩
  ·rw [← hlen, ← hnb]; exact cells_push_new _ _
  ·rw [List.length_map]; omega
  ·rw [List.length_map, List.drop_zero, List.take_of_length_le (by omega), hfl]
  ·obtain ⟨y, _, rfl⟩ := List.mem_map.1 hx
   rw [encB_len, y.1.2]
theorem write_ents {n lim N : Nat} {K : AVal → Heap → Prop} {v : AVal} {H0 : Heap} {fin : List UInt8} (h : CatAt H0 b m C) (hok : OkC C) (hlim : lim ≤ H0.next) (hfin : fin.length ≤ 1000) (hs : Sl H0 8 v (C.fs.map fun x => encB x.1.1)) (hK : ∀ H', Keeps2 H0 H' → K (.str fin) H') :
  ∀ (j i : Nat) (s : List UInt8) (H : Heap), C.fs.length < j + i → i ≤ C.fs.length → s ++ (C.fs.drop i).flatMap wP = fin → Keeps2 H0 H → F17_l2 (Ahs.runT ap n) lim N K j (.ptr (some (b, 0))) (.str s) v (.int .i64 (C.fs.length : Int)) (.int .i64 (i : Int)) H
 | 0, i, s, H, h', h'', _, _ => by exfalso; omega
 | j + 1, i, s, H, hj, hi, hq, k0 => by
  show F17_s2 _ _ _ _ (F17_l2 _ _ _ _ j) _ _ _ _ _ _
  unfold F17_s2
  have hml := many_le hok
  by_cases hil : i < C.fs.length
  ·have hd : decide ((i : Int) < (C.fs.length : Int)) = true := dT (by omega)
   obtain ⟨x, hx⟩ : ∃ x, C.fs[i]? = some x := ⟨_, List.getElem?_eq_getElem hil⟩
   have hmem := List.mem_of_getElem? hx
   obtain ⟨e1, e2, e3, e4, e5⟩ := hok.ent x hmem
   have hdrop : C.fs.drop i = x :: C.fs.drop (i + 1) := by
    rw [List.drop_eq_getElem_cons hil]
    have : C.fs[i] = x := by rw [List.getElem?_eq_getElem hil] at hx; exact Option.some.inj hx
    rw [this]
   have hxs : (C.fs.map fun x => encB x.1.1)[i]? = some (encB x.1.1) := by rw [List.getElem?_map, hx]; rfl
   have hsl := hs.keep k0
   have had := hsl.addr (k := .i64) (i := i) (by rw [List.length_map]; exact hil)
   have hld := hsl.load hxs
   have hkn := k0.next
   have h1 := (h.keep k0)
   have h8 : (encB x.1.1).length = 8 := by rw [encB_len, x.1.2]
   have hst : astore lim (H.push (.cells zdff0c5)) 8 (.ptr (some (H.next, 0))) (.agg (encB x.1.1)) = some (H.push (.cells (encB x.1.1))) := astore_new (cs := zdff0c5) (x := .agg (encB x.1.1)) (by omega) h8 rfl (encB_one _)
   have k1 : Keeps2 H (H.push (.cells (encB x.1.1))) := .push _ _
   have h2 := h1.keep k1
   have x1 : (H.push (.cells (encB x.1.1))).cells H.next = some (encB x.1.1) := cells_push_new _ _
   have n1 : (H.push (.cells (encB x.1.1))).next = H.next + 1 := Heap.next_push _ _
   generalize hG : H.push (.cells (encB x.1.1)) = G at *
   have hsa : asliceArr 8 1 (.ptr (some (H.next, 0))) none none none = some (.sl (some (H.next, 0)) 8 (.ex 8)) := rfl
   have hb1 : abytesToStr G (.sl (some (H.next, 0)) 8 (.ex 8)) = some (.str x.1.1) := by
    have := str_blk x1 8
    rw [x.1.2] at this
    exact this
   have hl8 : aload G (some 8) (.ptr (some (H.next, 0))) = some (.agg (encB x.1.1)) := aload_all x1 h8
   have hlk : alookup G true u8x8 (.agg [(.int .u8 0), (.int .u8 0)]) false (.map (some m)) (.agg (encB x.1.1)) = some (.agg [.int .u8 (x.2.1 : Int), .int .u8 (x.2.2 : Int)]) := by
    obtain ⟨v, hv, hq⟩ := h2.map.lookup_some (lk_of_mem h2.map.nodup (k := x.1) (a := x.2) hmem) (.agg [(.int .u8 0), (.int .u8 0)])
    have := hq false
    unfold encP at hv
    rw [hv] at this
    exact this
   have hfv : fillV [(.int .u8 0), (.int .u8 0)] [(0, 1, .int .u8 (x.2.1 : Int)), (1, 1, .int .u8 (x.2.2 : Int))] = some [.int .u8 (x.2.1 : Int), .int .u8 (x.2.2 : Int)] := rfl
   have hen : [AVal.int .u8 (x.2.1 : Int), .int .u8 (x.2.2 : Int)] = encB [UInt8.ofNat x.2.1, UInt8.ofNat x.2.2] := by
    unfold encB
    simp [Nat.mod_eq_of_lt (show x.2.1 < 256 by omega), Nat.mod_eq_of_lt (show x.2.2 < 256 by omega)]
   have hb2 : abytesToStr (G.push (.cells [.int .u8 (x.2.1 : Int), .int .u8 (x.2.2 : Int)])) (.sl (some (G.next, 0)) 2 (.ex 2)) = some (.str [UInt8.ofNat x.2.1, UInt8.ofNat x.2.2]) := by
    rw [hen]
    exact str_blk (l := [UInt8.ofNat x.2.1, UInt8.ofNat x.2.2]) (cells_push_new G _) 2
   rw [hdrop, List.flatMap_cons] at hq
   have hlen : s.length + (wP x).length ≤ 1000 := by
    have := congrArg List.length hq
    simp only [List.length_append] at this
    omega
   have hwl := wP_len x
   have s1 : abin .add (.str x.1.1) (.str [UInt8.ofNat x.2.1, UInt8.ofNat x.2.2]) = some (.str (wP x)) := sadd (by rw [x.1.2]; simp)
   have s2 : abin .add (.str s) (.str (wP x)) = some (.str (s ++ wP x)) := sadd (by omega)
   have hi1 : IntKind.i64.wrap ((i : Int) + 1) = ((i + 1 : Nat) : Int) := i64_succ (by omega)
   (repeat (with_reducible first | ((first | apply bindP_intro | apply bind2_intro); (focus (first | rfl | (simp only [walkS, reduceIte, hd, had, hld, hst, hsa, hb1, map_load h2, hl8, hlk, hfv, hb2, s1, s2, hi1] <;> rfl)))) | apply cond_t | apply cond_f))
   refine write_ents h hok hlim hfin hs hK j (i + 1) (s ++ wP x) _ (by omega) (by omega) (by rw [List.append_assoc]; exact hq) ((k0.trans k1).trans (.push _ _))
  ·have hd : decide ((i : Int) < (C.fs.length : Int)) = false := dF (by omega)
   (repeat (with_reducible first | ((first | apply bindP_intro | apply bind2_intro); (focus (first | rfl | (simp only [walkS, reduceIte, hd] <;> rfl)))) | apply cond_t | apply cond_f))
   unfold F17_j0
   rw [List.drop_eq_nil_of_le (by omega), List.flatMap_nil, List.append_nil] at hq
   rw [hq]
   exact hK H k0
theorem fill_u64 (x : AVal) (h : x.cells = [x]) : fillV [(.int .u64 0)] [(0, 1, x)] = some [x] := by
 unfold fillV
 rw [h]
 rfl
theorem write_quos {n lim N : Nat} {K : AVal → Heap → Prop} {H0 : Heap} {fin : List UInt8} (h : CatAt H0 b m C) (hok : OkC C) (hlim : lim ≤ H0.next) (hn : 1000013 ≤ n) (hN : 20 ≤ N) (hfin : fin.length ≤ 1000) (hw : fin = writeC C) (hK : ∀ H', Keeps2 H0 H' → K (.str fin) H') :
  ∀ (j i q : Nat) (s : List UInt8) (H : Heap), j + i = 4 → j < q → s ++ (wRest C j i ++ (vNum C.fs.length ++ C.fs.flatMap wP)) = fin → Keeps2 H0 H → F17_l0 (Ahs.runT ap n) lim N K q (.ptr (some (b, 0))) (.str s) (.agg (quoCells C)) (.int .i64 (i : Int)) H
 | j, i, 0, s, H, _, h', _, _ => by omega
 | j, i, q + 1, s, H, hj, hjq, hq, k0 => by
  show F17_s0 _ _ _ _ (F17_l0 _ _ _ _ q) _ _ _ _ _
  unfold F17_s0
  have hml := many_le hok
  have hkn := k0.next
  have h1 := h.keep k0
  cases j with
  | zero =>
   have hd : decide ((i : Int) < 4) = false := dF (by omega)
   (repeat (with_reducible first | ((first | apply bindP_intro | apply bind2_intro); (focus (first | rfl | (simp only [walkS, reduceIte, hd] <;> rfl)))) | apply cond_t | apply cond_f))
   unfold F17_j1
   have hcv : IntKind.u64.wrap ((C.fs.length : Nat) : Int) = ((C.fs.length : Nat) : Int) := wrap_u64 (by omega) (by omega)
   have hfv := fill_u64 (.int .u64 ((C.fs.length : Nat) : Int)) rfl
   obtain ⟨n, rfl⟩ : ∃ n', n = n' + 1 := ⟨n - 1, by omega⟩
   have hsl : Sl (H.push (.cells [.int .u64 ((C.fs.length : Nat) : Int)])) 1 (.sl (some (H.next, 0)) 1 (.ex 1)) (encN [C.fs.length]) := by
    refine ⟨.inr ⟨H.next, 0, .ex 1, [.int .u64 ((C.fs.length : Nat) : Int)], rfl, Nat.le_refl _, cells_push_new H _, Nat.le_refl 1, rfl⟩, fun x hx => ?_⟩
    unfold encN at hx
    simp at hx
    subst hx; rfl
   have k1 : Keeps2 H (H.push (.cells [.int .u64 ((C.fs.length : Nat) : Int)])) := .push _ _
   have n1 : (H.push (.cells [.int .u64 ((C.fs.length : Nat) : Int)])).next = H.next + 1 := Heap.next_push _ _
   obtain ⟨_, H2, r2, rfl, k2⟩ := v_c (n := n) (lim := lim) (l := [C.fs.length]) (by omega) (by omega) (fun m hm => by simp at hm; omega) (by simp) hsl
   have hvn : vNums [C.fs.length] = vNum C.fs.length := by unfold vNums; simp
   rw [hvn] at r2
   have k02 := k0.trans (k1.trans k2)
   have h2 := h.keep k02
   have k3 : Keeps2 H2 (H2.push (.cells [.map (some m)])) := .push _ _
   have h3 := h2.keep k3
   obtain ⟨v, H4, r4, hsl4, k4⟩ := sorted_c (n := n) (lim := lim) (fs := C.fs) (bx := H2.next) h3.map hok.sorted (by omega) (cells_push_new H2 _)
   have k04 := k02.trans (k3.trans k4)
   have h4 := h.keep k04
   have hal := hsl4.len
   rw [List.length_map] at hal
   have hlen : s.length + (vNum C.fs.length).length ≤ 1000 := by
    have := congrArg List.length hq
    simp only [List.length_append] at this
    omega
   have s1 : abin .add (.str s) (.str (vNum C.fs.length)) = some (.str (s ++ vNum C.fs.length)) := sadd (by omega)
   (repeat (with_reducible first | ((first | apply bindP_intro | apply bind2_intro); (focus (first | rfl | (simp only [walkS, reduceIte, map_load h1, h1.map.len, hcv, hfv, r2, s1, map_load h2, keysT_c, r4, hal] <;> rfl)))) | apply cond_t | apply cond_f))
   refine write_ents (H0 := H4) h4 hok (by have := k04.next; omega) hfin hsl4 (fun H' k => hK H' (k04.trans k)) N 0 (s ++ vNum C.fs.length) H4 (by omega) (Nat.zero_le _) ?_ (.refl _)
   rw [List.drop_zero, List.append_assoc]
   exact hq
  | succ j =>
   have hd : decide ((i : Int) < 4) = true := dT (by omega)
   have hc0 := quo_at C (i := i) (by omega)
   have hst : astore lim (H.push (.cells z547173)) 4 (.ptr (some (H.next, 0))) (.agg (encQ (C.q i))) = some (H.push (.cells (encQ (C.q i)))) := astore_new (cs := z547173) (x := .agg (encQ (C.q i))) (by omega) rfl rfl rfl
   have k1 : Keeps2 H (H.push (.cells (encQ (C.q i)))) := .push _ _
   have h2 := h1.keep k1
   have n1 : (H.push (.cells (encQ (C.q i)))).next = H.next + 1 := Heap.next_push _ _
   have lq : ∀ o, aload (H.push (.cells (encQ (C.q i)))) none (.ptr (some (H.next, o))) = (encQ (C.q i))[o]? := fun o => aload_new1 _ _ _
   have hcv : IntKind.u8.wrap (i : Int) = ((i : Nat) : Int) := wrapN_u8 (by omega)
   obtain ⟨n, rfl⟩ : ∃ n', n = n' + 1 := ⟨n - 1, by omega⟩
   have hi1 : IntKind.i64.wrap ((i : Int) + 1) = ((i + 1 : Nat) : Int) := i64_succ (by omega)
   have ht := there_c (n := n) (lim := lim) h2 (s := i) (by omega)
   have hf := hok.fit i (by omega)
   have hle := hf.le
   have hwr : wRest C (j + 1) i = wQ (C.q i) ++ wRest C j (i + 1) := rfl
   rw [hwr, List.append_assoc] at hq
   have hlen : s.length + (wQ (C.q i)).length ≤ 1000 := by
    have := congrArg List.length hq
    simp only [List.length_append] at this
    omega
   generalize hG : H.push (.cells (encQ (C.q i))) = G at *
   by_cases hk : 0 < (C.q i).k
   ·have dk : decide (0 < (C.q i).k) = true := dT hk
    have hr := hf.right hk
    have hu : 0 ≤ (C.q i).u ∧ (C.q i).u ≤ 100 := by
     unfold rightQ at hr
     simp only [Bool.and_eq_true, decide_eq_true_eq] at hr
     omega
    have hwq : wQ (C.q i) = 1 :: (vNum (C.q i).k.toNat ++ (vNum (C.q i).b.toNat ++ (vNum (C.q i).r.toNat ++ vNum (C.q i).u.toNat))) := by unfold wQ; rw [if_pos hk]
    have c1 : IntKind.u64.wrap (C.q i).k = (C.q i).k := wrap_u64 (by omega) (by omega)
    have c2 : IntKind.u64.wrap (C.q i).b = (C.q i).b := wrap_u64 (by omega) (by omega)
    have c3 : IntKind.u64.wrap (C.q i).r = (C.q i).r := wrap_u64 (by omega) (by omega)
    have c4 : IntKind.u64.wrap (C.q i).u = (C.q i).u := wrap_u64 (by omega) (by omega)
    have l0 := lq 0
    have l1 := lq 1
    have l2 := lq 2
    have l3 := lq 3
    simp only [encQ, List.getElem?_cons_zero, List.getElem?_cons_succ] at l0 l1 l2 l3
    have hfv : fillV z70c9c7 [(0, 1, .int .u64 (C.q i).k), (1, 1, .int .u64 (C.q i).b), (2, 1, .int .u64 (C.q i).r), (3, 1, .int .u64 (C.q i).u)] = some [.int .u64 (C.q i).k, .int .u64 (C.q i).b, .int .u64 (C.q i).r, .int .u64 (C.q i).u] := rfl
    have hsl : Sl (G.push (.cells [.int .u64 (C.q i).k, .int .u64 (C.q i).b, .int .u64 (C.q i).r, .int .u64 (C.q i).u])) 1 (.sl (some (G.next, 0)) 4 (.ex 4)) (encN [(C.q i).k.toNat, (C.q i).b.toNat, (C.q i).r.toNat, (C.q i).u.toNat]) := by
     refine ⟨.inr ⟨G.next, 0, .ex 4, [.int .u64 (C.q i).k, .int .u64 (C.q i).b, .int .u64 (C.q i).r, .int .u64 (C.q i).u], rfl, Nat.le_refl _, cells_push_new G _, Nat.le_refl 4, ?_⟩, fun x hx => ?_⟩
     ·unfold encN
      simp only [List.map_cons, List.map_nil, List.flatten_cons, List.flatten_nil, List.cons_append, List.nil_append, List.length_cons, List.length_nil]
      rw [Int.toNat_of_nonneg (by omega), Int.toNat_of_nonneg (by omega), Int.toNat_of_nonneg (by omega), Int.toNat_of_nonneg (by omega)]
      rfl
     ·unfold encN at hx
      simp at hx
      rcases hx with rfl | rfl | rfl | rfl <;> rfl
    have k2 : Keeps2 G (G.push (.cells [.int .u64 (C.q i).k, .int .u64 (C.q i).b, .int .u64 (C.q i).r, .int .u64 (C.q i).u])) := .push _ _
    have n2 : (G.push (.cells [.int .u64 (C.q i).k, .int .u64 (C.q i).b, .int .u64 (C.q i).r, .int .u64 (C.q i).u])).next = G.next + 1 := Heap.next_push _ _
    obtain ⟨_, H3, r3, rfl, k3⟩ := v_c (n := n) (lim := lim) (l := [(C.q i).k.toNat, (C.q i).b.toNat, (C.q i).r.toNat, (C.q i).u.toNat]) (by omega) (by omega) (fun m hm => by simp at hm; omega) (by simp) hsl
    have hvn : vNums [(C.q i).k.toNat, (C.q i).b.toNat, (C.q i).r.toNat, (C.q i).u.toNat] = vNum (C.q i).k.toNat ++ (vNum (C.q i).b.toNat ++ (vNum (C.q i).r.toNat ++ vNum (C.q i).u.toNat)) := by unfold vNums; simp
    rw [hvn] at r3
    have hl41 := wQ_len hf
    rw [hwq] at hl41 hlen hq
    simp only [List.length_cons] at hl41 hlen
    have s1 : abin .add (.str [1]) (.str (vNum (C.q i).k.toNat ++ (vNum (C.q i).b.toNat ++ (vNum (C.q i).r.toNat ++ vNum (C.q i).u.toNat)))) = some (.str (1 :: (vNum (C.q i).k.toNat ++ (vNum (C.q i).b.toNat ++ (vNum (C.q i).r.toNat ++ vNum (C.q i).u.toNat))))) := sadd (by simp only [List.length_cons, List.length_nil]; omega)
    have s2 : abin .add (.str s) (.str (1 :: (vNum (C.q i).k.toNat ++ (vNum (C.q i).b.toNat ++ (vNum (C.q i).r.toNat ++ vNum (C.q i).u.toNat))))) = some (.str (s ++ 1 :: (vNum (C.q i).k.toNat ++ (vNum (C.q i).b.toNat ++ (vNum (C.q i).r.toNat ++ vNum (C.q i).u.toNat))))) := sadd (by simp only [List.length_cons]; omega)
    (repeat (with_reducible first | ((first | apply bindP_intro | apply bind2_intro); (focus (first | rfl | (simp only [walkS, reduceIte, hd, hc0, hst, hcv, ht, dk, l0, l1, l2, l3, c1, c2, c3, c4, hfv, r3, s1, s2] <;> rfl)))) | apply cond_t | apply cond_f))
    unfold F17_j2
    (repeat (with_reducible first | ((first | apply bindP_intro | apply bind2_intro); (focus (first | rfl | (simp only [walkS, reduceIte, hi1] <;> rfl)))) | apply cond_t | apply cond_f))
    exact write_quos h hok hlim hn hN hfin hw hK j (i + 1) q _ H3 (by omega) (by omega) (by rw [List.append_assoc]; exact hq) (k0.trans (k1.trans (k2.trans k3)))
   ·have dk : decide (0 < (C.q i).k) = false := dF hk
    have hwq : wQ (C.q i) = [0] := by unfold wQ; rw [if_neg hk]
    rw [hwq] at hq hlen
    have s1 : abin .add (.str s) (.str [0]) = some (.str (s ++ [0])) := sadd (by simp only [List.length_cons, List.length_nil] at hlen ⊢; omega)
    (repeat (with_reducible first | ((first | apply bindP_intro | apply bind2_intro); (focus (first | rfl | (simp only [walkS, reduceIte, hd, hc0, hst, hcv, ht, dk, s1] <;> rfl)))) | apply cond_t | apply cond_f))
    unfold F17_j2
    (repeat (with_reducible first | ((first | apply bindP_intro | apply bind2_intro); (focus (first | rfl | (simp only [walkS, reduceIte, hi1] <;> rfl)))) | apply cond_t | apply cond_f))
    exact write_quos h hok hlim hn hN hfin hw hK j (i + 1) q _ G (by omega) (by omega) (by rw [List.append_assoc]; exact hq) (k0.trans k1)
theorem write_c {n lim : Nat} (h : CatAt H b m C) (hok : OkC C) (hlim : lim ≤ H.next) (hn : 1000013 ≤ n) : ∃ v H', Ahs.runT ap (n + 1) lim (.fn 17) [.ptr (some (b, 0))] H = some (v, H') ∧ v = .str (writeC C) ∧ Keeps2 H H' := by
 refine F17_run a17 ?_
 unfold F17
 obtain ⟨n', rfl⟩ : ∃ n', n = n' + 1 := ⟨n - 1, by omega⟩
 have l16 : aload H (some 16) (.ptr (some (b, 0))) = some (.agg (quoCells C)) := by rw [aload_agg h.cells]; rfl
 (repeat (with_reducible first | ((first | apply bindP_intro | apply bind2_intro); (focus (first | rfl | (simp only [walkS, reduceIte, cnone_c h, l16] <;> rfl)))) | apply cond_t | apply cond_f))
 exact write_quos h hok hlim hn (by omega) (Nat.le_trans (write_len hok).2 (by omega)) rfl (fun H' k => ⟨rfl, k⟩) 4 0 (n' + 1) [] H rfl (by omega) (by
  unfold writeC
  simp only [wRest, PCat.q, List.nil_append, List.append_assoc]) (.refl _)
end
theorem rvOut_eq (s : List UInt8) : ∃ bb, rvOut (rV s) = .tup [.int .u64 ((rV0 s).1 : Int), .int .i64 ((rV0 s).2 : Int), .bool bb] := by
 unfold rV0
 cases rV s with
 | none => exact ⟨false, rfl⟩
 | some x => exact ⟨true, rfl⟩
theorem rV0_le (s : List UInt8) : (rV0 s).2 ≤ s.length ∧ (rV0 s).1 < 18446744073709551616 := by
 unfold rV0
 cases h : rV s with
 | none => exact ⟨Nat.zero_le _, by decide⟩
 | some x =>
  obtain ⟨n, k⟩ := x
  obtain ⟨t, h1, h2, h3⟩ := rV_some h
  refine ⟨?_, h3⟩
  show k ≤ _
  rw [h2]
  conv => rhs; rw [h1]
  rw [List.length_append]; omega
theorem str_drop {s : List UInt8} {k : Nat} (h : k ≤ s.length) : asliceStr (.str s) (some (.int .i64 (k : Int))) none = some (.str (s.drop k)) := by
 simp only [asliceStr, natOr, natOf_nat, Option.bind_eq_bind, Option.bind_some]
 rw [if_pos ⟨Nat.le_refl _, h⟩, List.take_of_length_le (by rw [List.length_drop]; omega)]
theorem cutR_len (s : List UInt8) : (cutR s).length ≤ s.length := by unfold cutR; rw [List.length_drop]; omega
theorem quoR_len (s : List UInt8) : (quoR s).length ≤ s.length := by
 unfold quoR
 exact Nat.le_trans (cutR_len _) (Nat.le_trans (cutR_len _) (Nat.le_trans (cutR_len _) (cutR_len _)))
section
variable {H : Heap}
theorem quo_step {n lim N : Nat} {K : AVal → Heap → Prop} {rec0 : AVal → AVal → AVal → AVal → AVal → Heap → Prop} {Q P i : Nat} {s : List UInt8} {cs : List AVal} (hn : 12 ≤ n) (hs : s.length < 9223372036854775808) (hi : i < 4) (hc : H.cells Q = some cs) (hl : cs.length = 4) (hP : H.cells P = some [.ptr (some (Q, 0)), .ptr (some (Q, 1)), .ptr (some (Q, 2)), .ptr (some (Q, 3))]) (hQ : lim ≤ Q)
  (hk : rec0 (.str (cutR s)) (.ptr (some (Q, 0))) (.sl (some (P, 0)) 4 (.ex 4)) (.int .i64 4) (.int .i64 ((i + 1 : Nat) : Int)) (H.set Q (.cells (cs.set i (.int .i64 (cutN s : Nat)))))) :
  F58_s0 (Ahs.runT ap n) lim N K rec0 (.str s) (.ptr (some (Q, 0))) (.sl (some (P, 0)) 4 (.ex 4)) (.int .i64 4) (.int .i64 (i : Int)) H := by
 unfold F58_s0
 have hd : decide ((i : Int) < 4) = true := dT (by omega)
 have hj : natOf (.int .i64 (i : Int)) = some i := natOf_nat _ i
 have had : aindexAddr none 1 (.sl (some (P, 0)) 4 (.ex 4)) (.int .i64 (i : Int)) = some (.ptr (some (P, i))) := by
  unfold aindexAddr
  simp only [hj, hi, if_true, Nat.zero_add, Nat.mul_one]
 have hld : aload H none (.ptr (some (P, i))) = some (.ptr (some (Q, i))) := by
  rw [aload_one hP]
  match i, hi with
  | 0, _ | 1, _ | 2, _ | 3, _ => rfl
 obtain ⟨n, rfl⟩ : ∃ n', n = n' + 1 := ⟨n - 1, by omega⟩
 have hr := readv_c (H := H) (n := n) (lim := lim) hs (by omega)
 obtain ⟨bb, hrv⟩ := rvOut_eq s
 rw [hrv] at hr
 obtain ⟨l1, l2⟩ := rV0_le s
 have hmin : aminmax false [.int .u64 ((rV0 s).1 : Int), .int .u64 4294967296] = some (.int .u64 ((cutN s : Nat) : Int)) := by
  rw [min_int]
  have : min ((rV0 s).1 : Int) 4294967296 = ((cutN s : Nat) : Int) := by unfold cutN; omega
  rw [this]
 have hcl : cutN s ≤ 4294967296 := Nat.min_le_right _ _
 have hcv : IntKind.i64.wrap ((cutN s : Nat) : Int) = ((cutN s : Nat) : Int) := wrap_i64 (by omega) (by omega)
 have hst : astore lim H 1 (.ptr (some (Q, i))) (.int .i64 ((cutN s : Nat) : Int)) = some (H.set Q (.cells (cs.set i (.int .i64 (cutN s : Nat))))) := astore_cell hc hQ rfl rfl (by omega) rfl
 have hsd := str_drop l1
 have hi1 : IntKind.i64.wrap ((i : Int) + 1) = ((i + 1 : Nat) : Int) := i64_succ (by omega)
 (repeat (with_reducible first | ((first | apply bindP_intro | apply bind2_intro); (focus (first | rfl | (simp only [walkS, reduceIte, hd, had, hld, hr, hmin, hcv, hst, hsd, hi1] <;> rfl)))) | apply cond_t | apply cond_f))
 exact hk
theorem quo_c {n lim : Nat} {s : List UInt8} (hlim : lim ≤ H.next) (hn : 12 ≤ n) (hs : s.length < 9223372036854775808) :
  ∃ v H', Ahs.runT ap (n + 1) lim (.fn 58) [.str s] H = some (v, H') ∧ v = .tup [.agg (encQ (quoP s)), .str (quoR s)] ∧ Keeps2 H H' := by
 refine F58_run a58 ?_
 unfold F58
 have hfv : fillV zc0a9bf [(0, 1, .ptr (some (H.next, 0))), (1, 1, .ptr (some (H.next, 1))), (2, 1, .ptr (some (H.next, 2))), (3, 1, .ptr (some (H.next, 3)))] = some [.ptr (some (H.next, 0)), .ptr (some (H.next, 1)), .ptr (some (H.next, 2)), .ptr (some (H.next, 3))] := rfl
 have k1 : Keeps2 H (H.push (.cells z547173)) := .push _ _
 have n1 : (H.push (.cells z547173)).next = H.next + 1 := Heap.next_push _ _
 have q1 : (H.push (.cells z547173)).cells H.next = some z547173 := cells_push_new _ _
 obtain ⟨G, hG⟩ : ∃ G, G = (H.push (.cells z547173)).push (.cells [.ptr (some (H.next, 0)), .ptr (some (H.next, 1)), .ptr (some (H.next, 2)), .ptr (some (H.next, 3))]) := ⟨_, rfl⟩
 have k2 : Keeps2 H G := by rw [hG]; exact k1.trans (.push _ _)
 have q2 : G.cells H.next = some z547173 := by rw [hG]; exact cells_push_old q1
 have p2 : G.cells (H.next + 1) = some [.ptr (some (H.next, 0)), .ptr (some (H.next, 1)), .ptr (some (H.next, 2)), .ptr (some (H.next, 3))] := by rw [hG, ← n1]; exact cells_push_new _ _
 (repeat (with_reducible first | ((first | apply bindP_intro | apply bind2_intro); (focus (first | rfl | (simp only [walkS, reduceIte, hfv, ← hG, n1] <;> rfl)))) | apply cond_t | apply cond_f))
 generalize hQ : H.next = Q at *
 obtain ⟨q, rfl⟩ : ∃ q, n = q + 5 := ⟨n - 5, by omega⟩
 have hs1 := cutR_len s
 have hs2 := cutR_len (cutR s)
 have hs3 := cutR_len (cutR (cutR s))
 have hne : Q + 1 ≠ Q := by omega
 refine quo_step (i := 0) (by omega) hs (by omega) q2 rfl p2 (by omega) ?_
 have c3 := Heap.cells_lt q2
 have q3 : (G.set Q (.cells (z547173.set 0 (.int .i64 (cutN s : Nat))))).cells Q = some [.int .i64 (cutN s : Nat), .int .i64 0, .int .i64 0, .int .i64 0] := cells_set_same c3
 have p3 : (G.set Q (.cells (z547173.set 0 (.int .i64 (cutN s : Nat))))).cells (Q + 1) = _ := cells_set_other p2 hne
 have k3 : Keeps2 H (G.set Q (.cells (z547173.set 0 (.int .i64 (cutN s : Nat))))) := k2.setNew (by omega) _
 generalize G.set Q (.cells (z547173.set 0 (.int .i64 (cutN s : Nat)))) = G3 at q3 p3 k3 ⊢
 refine quo_step (i := 1) (by omega) (by omega) (by omega) q3 rfl p3 (by omega) ?_
 have c4 := Heap.cells_lt q3
 have q4 : (G3.set Q (.cells ([AVal.int .i64 (cutN s : Nat), .int .i64 0, .int .i64 0, .int .i64 0].set 1 (.int .i64 (cutN (cutR s) : Nat))))).cells Q = some [.int .i64 (cutN s : Nat), .int .i64 (cutN (cutR s) : Nat), .int .i64 0, .int .i64 0] := cells_set_same c4
 have p4 : (G3.set Q (.cells ([AVal.int .i64 (cutN s : Nat), .int .i64 0, .int .i64 0, .int .i64 0].set 1 (.int .i64 (cutN (cutR s) : Nat))))).cells (Q + 1) = _ := cells_set_other p3 hne
 have k4 : Keeps2 H (G3.set Q (.cells ([AVal.int .i64 (cutN s : Nat), .int .i64 0, .int .i64 0, .int .i64 0].set 1 (.int .i64 (cutN (cutR s) : Nat))))) := k3.setNew (by omega) _
 generalize G3.set Q (.cells ([AVal.int .i64 (cutN s : Nat), .int .i64 0, .int .i64 0, .int .i64 0].set 1 (.int .i64 (cutN (cutR s) : Nat)))) = G4 at q4 p4 k4 ⊢
 refine quo_step (i := 2) (by omega) (by omega) (by omega) q4 rfl p4 (by omega) ?_
 have c5 := Heap.cells_lt q4
 have q5 : (G4.set Q (.cells ([AVal.int .i64 (cutN s : Nat), .int .i64 (cutN (cutR s) : Nat), .int .i64 0, .int .i64 0].set 2 (.int .i64 (cutN (cutR (cutR s)) : Nat))))).cells Q = some [.int .i64 (cutN s : Nat), .int .i64 (cutN (cutR s) : Nat), .int .i64 (cutN (cutR (cutR s)) : Nat), .int .i64 0] := cells_set_same c5
 have p5 : (G4.set Q (.cells ([AVal.int .i64 (cutN s : Nat), .int .i64 (cutN (cutR s) : Nat), .int .i64 0, .int .i64 0].set 2 (.int .i64 (cutN (cutR (cutR s)) : Nat))))).cells (Q + 1) = _ := cells_set_other p4 hne
 have k5 : Keeps2 H (G4.set Q (.cells ([AVal.int .i64 (cutN s : Nat), .int .i64 (cutN (cutR s) : Nat), .int .i64 0, .int .i64 0].set 2 (.int .i64 (cutN (cutR (cutR s)) : Nat))))) := k4.setNew (by omega) _
 generalize G4.set Q (.cells ([AVal.int .i64 (cutN s : Nat), .int .i64 (cutN (cutR s) : Nat), .int .i64 0, .int .i64 0].set 2 (.int .i64 (cutN (cutR (cutR s)) : Nat)))) = G5 at q5 p5 k5 ⊢
 refine quo_step (i := 3) (by omega) (by omega) (by omega) q5 rfl p5 (by omega) ?_
 have c6 := Heap.cells_lt q5
 have q6 : (G5.set Q (.cells ([AVal.int .i64 (cutN s : Nat), .int .i64 (cutN (cutR s) : Nat), .int .i64 (cutN (cutR (cutR s)) : Nat), .int .i64 0].set 3 (.int .i64 (cutN (cutR (cutR (cutR s))) : Nat))))).cells Q = some (encQ (quoP s)) := cells_set_same c6
 have k6 : Keeps2 H (G5.set Q (.cells ([AVal.int .i64 (cutN s : Nat), .int .i64 (cutN (cutR s) : Nat), .int .i64 (cutN (cutR (cutR s)) : Nat), .int .i64 0].set 3 (.int .i64 (cutN (cutR (cutR (cutR s))) : Nat))))) := k5.setNew (by omega) _
 generalize G5.set Q (.cells ([AVal.int .i64 (cutN s : Nat), .int .i64 (cutN (cutR s) : Nat), .int .i64 (cutN (cutR (cutR s)) : Nat), .int .i64 0].set 3 (.int .i64 (cutN (cutR (cutR (cutR s))) : Nat)))) = G6 at q6 k6 ⊢
 show F58_s0 _ _ _ _ (F58_l0 _ _ _ _ q) _ _ _ _ _ _
 unfold F58_s0
 have hd : decide (((3 + 1 : Nat) : Int) < 4) = false := dF (by omega)
 (repeat (with_reducible first | ((first | apply bindP_intro | apply bind2_intro); (focus (first | rfl | (simp only [walkS, reduceIte, hd] <;> rfl)))) | apply cond_t | apply cond_f))
 unfold F58_j0
 have l6 : aload G6 (some 4) (.ptr (some (Q, 0))) = some (.agg (encQ (quoP s))) := aload_all q6 rfl
 have s6 : astore lim G6 4 (.ptr (some (Q, 0))) (.agg (encQ (quoP s))) = some (G6.set Q (.cells (encQ (quoP s)))) := astore_at (n := 4) (o := 0) (x := .agg (encQ (quoP s))) q6 (by omega) rfl (by show 0 + 4 ≤ 4; omega) rfl
 have l7 : aload (G6.set Q (.cells (encQ (quoP s)))) (some 4) (.ptr (some (Q, 0))) = some (.agg (encQ (quoP s))) := aload_all (cells_set_same (Heap.cells_lt q6)) rfl
 (repeat (with_reducible first | ((first | apply bindP_intro | apply bind2_intro); (focus (first | rfl | (simp only [walkS, reduceIte, l6, s6, l7] <;> rfl)))) | apply cond_t | apply cond_f))
 exact ⟨rfl, k6.setNew (by omega) _⟩
end
theorem str_at {s : List UInt8} {i : Nat} (h : i < s.length) (k : IntKind) : aindexStr (.str s) (.int k (i : Int)) = some (.int .u8 (byteP s i : Nat)) := by
 have hj : natOf (.int k (i : Int)) = some i := natOf_nat _ i
 unfold aindexStr byteP
 rw [hj]
 simp only [List.getElem?_eq_getElem h, Option.map_some, List.getD_eq_getElem?_getD, Option.getD_some]
theorem byteP_lt (s : List UInt8) (i : Nat) : byteP s i < 256 := by unfold byteP; exact UInt8.toNat_lt _
def ReadOut (H H' : Heap) (v : AVal) : Option PCat → Prop
 | none => v = .tup [.ptr none, .bool false]
 | some C => ∃ b m, v = .tup [.ptr (some (b, 0)), .bool true] ∧ CatAt H' b m C ∧ OkC C ∧ H.next ≤ b ∧ H.next ≤ m
section
variable {b m : Nat}
theorem read_end {n lim N : Nat} {K : AVal → Heap → Prop} {H0 H : Heap} {C : PCat} {s : List UInt8} (h : CatAt H b m C) (hok : OkC C) (hn : 1000014 ≤ n) (hlim : lim ≤ H.next) (k0 : Keeps2 H0 H) (hb : H0.next ≤ b) (hm : H0.next ≤ m)
  (hK : ∀ v H', Keeps2 H0 H' → ReadOut H0 H' v (if writeC C = s then some C else none) → K v H') : F15_j0 (Ahs.runT ap n) lim N K (.str s) (.ptr (some (b, 0))) H := by
 unfold F15_j0
 obtain ⟨n, rfl⟩ : ∃ n', n = n' + 1 := ⟨n - 1, by omega⟩
 obtain ⟨_, H1, r1, rfl, k1⟩ := write_c (n := n) (lim := lim) h hok hlim (by omega)
 have hk := hK
 by_cases e : writeC C = s
 ·have e1 : (!(writeC C == s)) = false := by rw [e]; simp
  (repeat (with_reducible first | ((first | apply bindP_intro | apply bind2_intro); (focus (first | rfl | (simp only [walkS, reduceIte, r1, e1] <;> rfl)))) | apply cond_t | apply cond_f))
  refine hk _ H1 (k0.trans k1) ?_
  rw [if_pos e]
  exact ⟨b, m, rfl, h.keep k1, hok, hb, hm⟩
 ·have e1 : (!(writeC C == s)) = true := by simpa using e
  (repeat (with_reducible first | ((first | apply bindP_intro | apply bind2_intro); (focus (first | rfl | (simp only [walkS, reduceIte, r1, e1] <;> rfl)))) | apply cond_t | apply cond_f))
  refine hk _ H1 (k0.trans k1) ?_
  rw [if_neg e]
  exact rfl
theorem read_prins {n lim N : Nat} {K : AVal → Heap → Prop} {H0 : Heap} {s : List UInt8} {F : PCat} (hn : 1000014 ≤ n) (hlim : lim ≤ H0.next) (hb : H0.next ≤ b) (hm : H0.next ≤ m)
  (hK : ∀ v H', Keeps2 H0 H' → ReadOut H0 H' v (if writeC F = s then some F else none) → K v H') :
  ∀ (q k : Nat) (C : PCat) (r : List UInt8) (H : Heap), r.length < q → r.length ≤ 1000000 → k < 18446744073709551616 → CatAt H b m C → OkC C → Keeps2 H0 H → prinsP k C r = F → F15_l2 (Ahs.runT ap n) lim N K q (.str s) (.ptr (some (b, 0))) (.str r) (.int .u64 (k : Int)) H
 | 0, k, C, r, H, h', _, _, _, _, _, _ => by omega
 | q + 1, k, C, r, H, hq, hrl, hk, h, hok, k0, hF => by
  show F15_s2 _ _ _ _ (F15_l2 _ _ _ _ q) _ _ _ _ _
  unfold F15_s2
  have hal : alen true (.str r) = some (.int .i64 (r.length : Int)) := rfl
  have hkn := k0.next
  cases k with
  | zero =>
   have hd : decide ((0 : Int) < 0) = false := rfl
   (repeat (with_reducible first | ((first | apply bindP_intro | apply bind2_intro); (focus (first | rfl | (simp only [walkS, reduceIte, hd] <;> rfl)))) | apply cond_t | apply cond_f))
   have hF : C = F := hF
   subst hF
   exact read_end h hok hn (by omega) k0 hb hm hK
  | succ k =>
   have hd : decide ((0 : Int) < ((k + 1 : Nat) : Int)) = true := dT (by omega)
   unfold prinsP at hF
   by_cases h10 : 10 ≤ r.length
   ·have hd2 : decide ((10 : Int) ≤ (r.length : Int)) = true := dT (by omega)
    rw [dif_pos h10] at hF
    have k1 : Keeps2 H (H.push (.cells zdff0c5)) := .push _ _
    have hsa : asliceArr 8 1 (.ptr (some (H.next, 0))) none none none = some (.sl (some (H.next, 0)) 8 (.ex 8)) := rfl
    have hte : (tokP r h10).1 = r.take 8 := rfl
    have hcp : acopy lim (H.push (.cells zdff0c5)) 1 (.sl (some (H.next, 0)) 8 (.ex 8)) (.str r) = some (.int .i64 8, H.push (.cells (encB (tokP r h10).1))) := by
     unfold acopy
     have hmin : min r.length 8 = 8 := by omega
     have hsrc : source (H.push (.cells zdff0c5)) 1 (.str r) = some (r.length, encB r) := by
      unfold source; rfl
     simp only [hsrc, Option.bind_eq_bind, Option.bind_some, cells_push_new, hmin]
     have htk : (encB r).take (8 * 1) = encB (tokP r h10).1 := by
      rw [hte]; unfold encB; rw [List.map_take]
     have hel : (encB (tokP r h10).1).length = 8 := by rw [encB_len, (tokP r h10).2]
     rw [if_neg (by decide), htk, if_pos ⟨by omega, by decide, encB_one _⟩, set_push, put_all (by rw [hel]; rfl)]
     rfl
    have hl8 : aload (H.push (.cells (encB (tokP r h10).1))) (some 8) (.ptr (some (H.next, 0))) = some (.agg (encB (tokP r h10).1)) := aload_newA H (by rw [encB_len, (tokP r h10).2])
    have k2 : Keeps2 H (H.push (.cells (encB (tokP r h10).1))) := .push _ _
    have h2 := h.keep k2
    have n2 : (H.push (.cells (encB (tokP r h10).1))).next = H.next + 1 := Heap.next_push _ _
    obtain ⟨n', hn'⟩ : ∃ n', n = n' + 2 := ⟨n - 2, by omega⟩
    obtain ⟨_, H3, r3, rfl, h3, f3⟩ := prin_c (n := n') (lim := lim) (s := byteP r 8) (r := byteP r 9) (t := tokP r h10) h2 hok (by omega) (by omega) (by omega) (byteP_lt _ _) (byteP_lt _ _)
    rw [← hn'] at r3
    have k3 : Keeps2 H0 H3 := Fram.keeps (k0.trans k2) f3 fun c hc e => by rcases e with rfl | rfl <;> omega
    have a8 : aindexStr (.str r) (.int .i64 8) = _ := str_at (s := r) (i := 8) (by omega) .i64
    have a9 : aindexStr (.str r) (.int .i64 9) = _ := str_at (s := r) (i := 9) (by omega) .i64
    have w9 : IntKind.i64.wrap ((8 : Int) + 1) = 9 := rfl
    have hdr : asliceStr (.str r) (some (.int .i64 10)) none = some (.str (r.drop 10)) := str_drop (s := r) (k := 10) h10
    have wk : IntKind.u64.wrap (((k + 1 : Nat) : Int) - 1) = ((k : Nat) : Int) := by
     rw [show ((k + 1 : Nat) : Int) - 1 = ((k : Nat) : Int) by omega]; exact wrapN_u64 (by omega)
    (repeat (with_reducible first | ((first | apply bindP_intro | apply bind2_intro); (focus (first | rfl | (simp only [walkS, reduceIte, hd, hal, hd2, hsa, hcp, a8, hl8, w9, a9, r3, hdr, wk] <;> rfl)))) | apply cond_t | apply cond_f))
    exact read_prins hn hlim hb hm hK q k _ _ H3 (by rw [List.length_drop]; omega) (by rw [List.length_drop]; omega) (by omega) h3 (prinC_ok hok).1 k3 hF
   ·have hd2 : decide ((10 : Int) ≤ (r.length : Int)) = false := dF (by omega)
    rw [dif_neg h10] at hF
    subst hF
    (repeat (with_reducible first | ((first | apply bindP_intro | apply bind2_intro); (focus (first | rfl | (simp only [walkS, reduceIte, hd, hal, hd2] <;> rfl)))) | apply cond_t | apply cond_f))
    exact read_end h hok hn (by omega) k0 hb hm hK
theorem read_slots {n lim N : Nat} {K : AVal → Heap → Prop} {H0 : Heap} {s : List UInt8} (hn : 1000014 ≤ n) (hN : 1000001 ≤ N) (hlim : lim ≤ H0.next) (hb : H0.next ≤ b) (hm : H0.next ≤ m) (hsl : s.length ≤ 1000000) :
  ∀ (j i q : Nat) (C : PCat) (r : List UInt8) (H : Heap), j + i = 4 → j < q → r.length ≤ 1000000 → CatAt H b m C → OkC C → Keeps2 H0 H →
   (∀ v H', Keeps2 H0 H' → ReadOut H0 H' v (match (match slotsP j i C r with | none => none | some (C, r) => some (prinsP (rV0 r).1 C (cutR r))) with | none => none | some C => if writeC C = s then some C else none) → K v H') →
   F15_l0 (Ahs.runT ap n) lim N K q (.str s) (.ptr (some (b, 0))) (.str r) (.int .u8 (i : Int)) H
 | j, i, 0, C, r, H, _, h', _, _, _, _, _ => by omega
 | j, i, q + 1, C, r, H, hj, hq, hrl, h, hok, k0, hK => by
  show F15_s0 _ _ _ _ (F15_l0 _ _ _ _ q) _ _ _ _ _
  unfold F15_s0
  have hkn := k0.next
  cases j with
  | zero =>
   have hd : decide ((i : Int) < 4) = false := dF (by omega)
   (repeat (with_reducible first | ((first | apply bindP_intro | apply bind2_intro); (focus (first | rfl | (simp only [walkS, reduceIte, hd] <;> rfl)))) | apply cond_t | apply cond_f))
   unfold F15_j1
   obtain ⟨n', hn'⟩ : ∃ n', n = n' + 1 := ⟨n - 1, by omega⟩
   have hr := readv_c (H := H) (s := r) (n := n') (lim := lim) (by omega) (by omega)
   rw [← hn'] at hr
   obtain ⟨bb, hrv⟩ := rvOut_eq r
   rw [hrv] at hr
   obtain ⟨l1, l2⟩ := rV0_le r
   have hsd := str_drop l1
   (repeat (with_reducible first | ((first | apply bindP_intro | apply bind2_intro); (focus (first | rfl | (simp only [walkS, reduceIte, hr, hsd] <;> rfl)))) | apply cond_t | apply cond_f))
   exact read_prins (F := prinsP (rV0 r).1 C (cutR r)) hn hlim hb hm (fun v H' k hv => hK v H' k hv) N (rV0 r).1 C (cutR r) H (by have := cutR_len r; omega) (by have := cutR_len r; omega) l2 h hok k0 rfl
  | succ j =>
   have hd : decide ((i : Int) < 4) = true := dT (by omega)
   cases r with
   | nil =>
    have he : (([] : List UInt8) == []) = true := rfl
    (repeat (with_reducible first | ((first | apply bindP_intro | apply bind2_intro); (focus (first | rfl | (simp only [walkS, reduceIte, hd, he] <;> rfl)))) | apply cond_t | apply cond_f))
    exact hK _ H k0 rfl
   | cons c r =>
    have he : ((c :: r) == []) = false := rfl
    have hx : aindexStr (.str (c :: r)) (.int .i64 0) = some (.int .u8 (c.toNat : Int)) := rfl
    have hsd : asliceStr (.str (c :: r)) (some (.int .i64 1)) none = some (.str r) := str_drop (s := c :: r) (k := 1) (by simp)
    have hi1 : IntKind.u8.wrap ((i : Int) + 1) = ((i + 1 : Nat) : Int) := by
     rw [show ((i : Int) + 1) = ((i + 1 : Nat) : Int) by omega]; exact wrapN_u8 (by omega)
    have hrl' : r.length ≤ 1000000 := by simp at hrl; omega
    unfold slotsP at hK
    by_cases hc : c = 1
    ·subst hc
     have hc1 : (((1 : UInt8).toNat : Int) == 1) = true := rfl
     have hc2 : decide (((1 : UInt8).toNat : Int) = 1) = true := rfl
     have k1 : Keeps2 H (H.push (.cells z547173)) := .push _ _
     have x1 : (H.push (.cells z547173)).cells H.next = some z547173 := cells_push_new _ _
     have n1 : (H.push (.cells z547173)).next = H.next + 1 := Heap.next_push _ _
     obtain ⟨n', hn'⟩ : ∃ n', n = n' + 3 := ⟨n - 3, by omega⟩
     obtain ⟨_, H2, r2, rfl, k2⟩ := quo_c (n := n' + 2) (lim := lim) (H := H.push (.cells z547173)) (s := r) (by omega) (by omega) (by omega)
     have x2 := k2.cells x1
     have k12 := k1.trans k2
     have hst : astore lim H2 4 (.ptr (some (H.next, 0))) (.agg (encQ (quoP r))) = some (H2.set H.next (.cells (encQ (quoP r)))) := astore_at (n := 4) (o := 0) (x := .agg (encQ (quoP r))) x2 (by omega) rfl (by show 0 + 4 ≤ 4; omega) rfl
     have k3 : Keeps2 H (H2.set H.next (.cells (encQ (quoP r)))) := k12.setNew (Nat.le_refl _) _
     have h3 := h.keep k3
     have l3 : aload (H2.set H.next (.cells (encQ (quoP r)))) (some 4) (.ptr (some (H.next, 0))) = some (.agg (encQ (quoP r))) := aload_all (cells_set_same (Heap.cells_lt x2)) rfl
     have k3n := k3.next
     obtain ⟨_, H4, r4, rfl, h4, f4⟩ := create_c (n := n') (lim := lim) (s := i) h3 hok.fit (by omega) (by omega) (by omega) (quoP r) (by omega)
     rw [← hn'] at r4
     have hn2 : n = n' + 2 + 1 := by omega
     rw [← hn2] at r2
     have k4 : Keeps2 H0 H4 := Fram.keeps (k0.trans k3) f4 fun c hc e => by rcases e with rfl | rfl <;> omega
     have hok4 := (createC_ok hok (s := i) (q := quoP r)).1
     rw [if_pos rfl] at hK
     by_cases hz : (createC C i (quoP r)).1 = 0
     ·have e0 : (!decide ((createC C i (quoP r)).1 = 0)) = false := by rw [dT hz]; rfl
      have e1 : ((createC C i (quoP r)).1 != 0) = false := by rw [hz]; rfl
      rw [if_pos hz] at hK
      (repeat (with_reducible first | ((first | apply bindP_intro | apply bind2_intro); (focus (first | rfl | (simp only [walkS, reduceIte, hd, he, hx, hc1, hc2, hsd, r2, hst, l3, r4, e0, e1] <;> rfl)))) | apply cond_t | apply cond_f))
      unfold F15_j2
      (repeat (with_reducible first | ((first | apply bindP_intro | apply bind2_intro); (focus (first | rfl | (simp only [walkS, reduceIte, hi1] <;> rfl)))) | apply cond_t | apply cond_f))
      exact read_slots hn hN hlim hb hm hsl j (i + 1) q _ _ H4 (by omega) (by omega) (Nat.le_trans (quoR_len r) hrl') h4 hok4 k4 hK
     ·have e0 : (!decide ((createC C i (quoP r)).1 = 0)) = true := by rw [dF hz]; rfl
      have e1 : ((createC C i (quoP r)).1 != 0) = true := by simpa using hz
      rw [if_neg hz] at hK
      (repeat (with_reducible first | ((first | apply bindP_intro | apply bind2_intro); (focus (first | rfl | (simp only [walkS, reduceIte, hd, he, hx, hc1, hc2, hsd, r2, hst, l3, r4, e0, e1] <;> rfl)))) | apply cond_t | apply cond_f))
      exact hK _ H4 k4 rfl
    ·have hcn : ¬ ((c.toNat : Int) = 1) := fun e => hc (UInt8.toNat_inj.1 (by show c.toNat = 1; omega))
     have hc1 : ((c.toNat : Int) == 1) = false := by simpa using hcn
     have hc2 : decide ((c.toNat : Int) = 1) = false := dF hcn
     rw [if_neg hc] at hK
     (repeat (with_reducible first | ((first | apply bindP_intro | apply bind2_intro); (focus (first | rfl | (simp only [walkS, reduceIte, hd, he, hx, hc1, hc2, hsd] <;> rfl)))) | apply cond_t | apply cond_f))
     unfold F15_j2
     (repeat (with_reducible first | ((first | apply bindP_intro | apply bind2_intro); (focus (first | rfl | (simp only [walkS, reduceIte, hi1] <;> rfl)))) | apply cond_t | apply cond_f))
     exact read_slots hn hN hlim hb hm hsl j (i + 1) q C r H (by omega) (by omega) hrl' h hok k0 hK
end
theorem read_c {n lim : Nat} {H : Heap} {s : List UInt8} (hlim : lim ≤ H.next) (hn : 1000014 ≤ n) (hs : s.length ≤ 1000000) : ∃ v H', Ahs.runT ap (n + 1) lim (.fn 15) [.str s] H = some (v, H') ∧ ReadOut H H' v (readC s) ∧ Keeps2 H H' := by
 refine F15_run a15 ?_
 unfold F15
 obtain ⟨n', hn'⟩ : ∃ n', n = n' + 1 := ⟨n - 1, by omega⟩
 obtain ⟨b, m, H1, r1, h1, k1, hb, hm, _, _⟩ := cnew_c (n := n') (lim := lim) (H := H)
 rw [← hn'] at r1
 (repeat (with_reducible first | ((first | apply bindP_intro | apply bind2_intro); (focus (first | rfl | (simp only [walkS, reduceIte, r1] <;> rfl)))) | apply cond_t | apply cond_f))
 refine read_slots hn (by omega) hlim hb hm hs 4 0 n newC s H1 rfl (by omega) hs h1 ok_new k1 fun v H' k hv => ⟨?_, k⟩
 unfold readC pRead
 exact hv
theorem eqT {x y : Int} (h : x = y) : (x == y) = true := by rw [h]; simp
theorem eqF {x y : Int} (h : ¬ x = y) : (x == y) = false := by simpa using h
section
variable {H : Heap} {b m : Nat} {C : PCat}
end
end Go.Proofs.Ytjflpnahjooffaa.cat
