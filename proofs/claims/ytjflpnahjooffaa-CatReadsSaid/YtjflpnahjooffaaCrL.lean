/- What the document's catalogue comes to: contracts. Second part: a token's text, Find, Who. -/
import Derived.Test.YtjflpnahjooffaaCrM
import Derived.Test.YtjflpnahjooffaaChsX3
set_option maxRecDepth 100000
set_option linter.unusedVariables false
set_option linter.unusedSimpArgs false
namespace Go.Proofs.Ytjflpnahjooffaa.cat
open Go.Ahs
abbrev Ten := Nat × Quo
def rowT (x : Ten) : List AVal := .int .u8 (x.1 : Int) :: encQ x.2
def rowP (x : Ent) : List AVal := [.str x.1.1, .int .u8 (x.2.1 : Int), .int .u8 (x.2.2 : Int)]
def tenL (C : PCat) : List Ten := ([0, 1, 2, 3].map fun s => (s, C.q s)).filter fun x => decide (0 < x.2.k)
theorem rowT_ok (x : Ten) : (rowT x).length = 5 ∧ (rowT x).all (·.one) = true := ⟨rfl, rfl⟩
theorem rowP_ok (x : Ent) : (rowP x).length = 3 ∧ (rowP x).all (·.one) = true := ⟨rfl, rfl⟩
structure R20 (H : Heap) (v : AVal) (C : PCat) : Prop where
 ex : ∃ vT vP, v = .agg [vT, vP] ∧ Fz H 5 vT ((tenL C).map rowT) ∧ Fz H 3 vP (C.fs.map rowP) ∧ ∀ b, slBlk vP = some b → ∃ cs, H.cells b = some cs ∧ cs.all plainV = true
theorem R20.keep {H H' : Heap} {v : AVal} {C : PCat} (h : R20 H v C) (hk : Keeps2 H H') : R20 H' v C := by
 obtain ⟨vT, vP, h1, h2, h3, h4⟩ := h.ex
 exact ⟨vT, vP, h1, h2.keep hk, h3.keep hk, fun b hb => by obtain ⟨cs, q1, q2⟩ := h4 b hb; exact ⟨cs, hk.cells q1, q2⟩⟩
theorem R20.new (H : Heap) : R20 H (.agg zf3f7a3) newC := ⟨.sl none 0 (.ex 0), .sl none 0 (.ex 0), rfl, Fz.nil _ _, Fz.nil _ _, fun b hb => by simp [slBlk] at hb⟩
def lkT (l : List Ten) (s : Nat) : Quo × Bool := match l with
 | [] => (noQ, false)
 | x :: l => if x.1 = s then (x.2, true) else lkT l s
theorem lkT_ten (C : PCat) (s : Nat) : lkT (tenL C) s = quotaC C s := by
 unfold tenL quotaC
 simp only [List.map_cons, List.map_nil, PCat.q]
 by_cases h0 : 0 < C.q0.k <;> by_cases h1 : 0 < C.q1.k <;> by_cases h2 : 0 < C.q2.k <;> by_cases h3 : 0 < C.q3.k <;>
  simp only [List.filter_cons, List.filter_nil, h0, h1, h2, h3, decide_true, decide_false, if_true, Bool.false_eq_true, if_false, lkT] <;>
  (match s with
   | 0 => simp [PCat.q, h0]
   | 1 => simp [PCat.q, h1]
   | 2 => simp [PCat.q, h2]
   | 3 => simp [PCat.q, h3]
   | s + 4 => simp [show ¬ (0 = s + 4) by omega, show ¬ (1 = s + 4) by omega, show ¬ (2 = s + 4) by omega, show ¬ (3 = s + 4) by omega, show ¬ (s + 4 < 4) by omega])
theorem tenL_mem {C : PCat} {x : Ten} (h : x ∈ tenL C) : x.1 < 4 ∧ x.2 = C.q x.1 ∧ 0 < x.2.k := by
 unfold tenL at h
 obtain ⟨h1, h2⟩ := List.mem_filter.1 h
 obtain ⟨s, hs, rfl⟩ := List.mem_map.1 h1
 simp at hs
 exact ⟨by show s < 4; omega, rfl, by simpa using h2⟩
theorem tenL_len (C : PCat) : (tenL C).length ≤ 4 := Nat.le_trans (List.length_filter_le _ _) (by simp)
def whoL (l : List Ent) (t : Tok) : Nat × Nat × Bool := match l with
 | [] => (0, 0, false)
 | x :: l => if x.1 = t then (x.2.1, x.2.2, true) else whoL l t
theorem whoL_who (C : PCat) (t : Tok) : whoL C.fs t = whoC C t := by
 unfold whoC
 generalize C.fs = fs
 induction fs with
 | nil => rfl
 | cons x fs ih =>
  unfold whoL
  by_cases h : x.1 = t
  ·rw [if_pos h]
   have : lk (x :: fs) t = some x.2 := by unfold lk; simp [h]
   rw [this]
  ·rw [if_neg h, ih]
   have : lk (x :: fs) t = lk fs t := by unfold lk; simp [h]
   rw [this]
theorem gtS (a b : List UInt8) : abin .gtr (.str a) (.str b) = some (.bool (decide (b < a))) := by
 show some (AVal.bool !(Op.bytesLess a b || a == b)) = _
 rw [Go.Proofs.bytesLess_eq]
 congr 2
 by_cases h : b < a
 ·have h1 : ¬ a < b := fun e => List.lt_irrefl _ (List.lt_trans h e)
  have h2 : ¬ a = b := fun e => by rw [e] at h; exact List.lt_irrefl _ h
  simp [h, h1, h2]
 ·by_cases h1 : a < b
  ·simp [h, h1]
  ·have : a = b := List.le_antisymm (List.not_lt.1 h) (List.not_lt.1 h1)
   simp [this]
theorem geS (a b : List UInt8) : abin .geq (.str a) (.str b) = some (.bool !(decide (a < b))) := by
 show some (AVal.bool !(Op.bytesLess a b)) = _
 rw [Go.Proofs.bytesLess_eq]
theorem blk_slot {v : AVal} {k b : Nat} (h : blkOf (Ahs.slot v k) = some b) : slBlk v = some b := by
 unfold Ahs.slot at h
 split at h
 ·simp only [blkOf, Option.some.injEq] at h
  rw [← h]; rfl
 ·simp [blkOf] at h
theorem loadn {H : Heap} {sz : Nat} {v : AVal} {xs : List (List AVal)} (h : Sl H sz v xs) {i : Nat} {x : List AVal} (hx : xs[i]? = some x) {f k : Nat} (hf : f + k ≤ sz) : aload H (some k) (Ahs.slot v (i * sz + f)) = some (.agg ((x.drop f).take k)) := by
 obtain ⟨b, o, cs, _, h1, h2, h3, h4⟩ := h.cut hx
 rw [h1, aload_agg h2]
 unfold Ahs.cut
 rw [if_pos (by omega)]
 have : ((x.drop f).take k) = ((cs.drop (o + f)).take k) := by
  rw [← h4, List.drop_take, List.drop_drop, List.take_take, Nat.min_eq_left (by omega)]
 rw [this]; rfl
theorem fill_row {z y : List AVal} {sz : Nat} (hz : z.length = sz) (hy : y.length = sz) : fillV z [(0, sz, .agg y)] = some y := by
 unfold fillV
 have hc : (AVal.agg y).cells = y := rfl
 rw [hc, if_pos ⟨hy, by omega⟩]
 unfold fillV
 rw [put_all (by omega)]
theorem Own.fz {H : Heap} {sz : Nat} {v : AVal} {xs : List (List AVal)} {bv : Nat} (h : Own H sz v xs bv) : Fz H sz v xs := by
 refine ⟨h.1, ?_⟩
 rcases h.2 with ⟨rfl, rfl⟩ | ⟨o, cs, rfl, rfl, h3, h4⟩ | ⟨rfl, h4⟩
 ·exact .inl ⟨rfl, rfl⟩
 ·exact .inr ⟨bv, o, .ex 0, cs, rfl, Nat.le_refl _, h3, by simpa using h4, by simp⟩
 ·have hl := flatten_len (fun x hx => (h.1 x hx).1)
  exact .inr ⟨bv, 0, .op sz 0, _, rfl, rfl, h4, by rw [hl]; omega, by rw [List.drop_zero, List.take_of_length_le (by omega)]⟩
theorem push_row {lim sz bytes : Nat} {zero : List AVal} {H0 H : Heap} {vo : AVal} {rows : List (List AVal)} {bo : Nat} {y : List AVal} (ho : Own H sz vo rows bo) (hb : H0.next ≤ bo) (hlim : lim ≤ H0.next) (k0 : Keeps2 H0 H) (hz : zero.length = sz) (hs : 0 < sz)
  (hy : y.length = sz ∧ y.all (·.one) = true) (hroom : (rows.length + 1) * bytes ≤ room) (hroom2 : rows.length + 1 ≤ room) :
  ∃ v' H' b', aappend lim (H.push (.cells y)) zero bytes false vo (.sl (some (H.next, 0)) 1 (.ex 1)) = some (v', H') ∧ Own H' sz v' (rows ++ [y]) b' ∧ H0.next ≤ b' ∧ Keeps2 H0 H' := by
 have k1 : Keeps2 H (H.push (.cells y)) := .push _ _
 have o1 : Own (H.push (.cells y)) sz vo rows bo := ho.frame (.of (S := fun _ => False) k1) (fun e => e)
 have hsrc : source (H.push (.cells y)) sz (.sl (some (H.next, 0)) 1 (.ex 1)) = some (([y] : List (List AVal)).length, ([y] : List (List AVal)).flatten) := by
  rw [source_new H (n := 1) (by rw [hy.1]; omega) (by decide)]
  simp
 obtain ⟨v', H', b', h1, h2, h3, h4, h5⟩ := own_append (lim := lim) (zero := zero) (bytes := bytes) o1 hz hs hsrc (fun z hz => by simp at hz; subst hz; exact hy) (by simpa using hroom) (by simpa using hroom2) (fun _ => by omega)
 have hkn := (k0.trans k1).next
 refine ⟨v', H', b', h1, h2, ?_, Fram.keeps (k0.trans k1) h3 fun c hc e => by have := o1.blk c e; omega⟩
 rcases h4 with ⟨_, e | e⟩ | e
 ·simp at e
 ·exact e.elim
 ·omega
section
variable {H : Heap} {C : PCat}
theorem text_loop {n lim N : Nat} {K : AVal → Heap → Prop} {H0 : Heap} {bx : Nat} {t : Tok} (hb : H0.cells bx = some (encB t.1)) (hK : ∀ H', Keeps2 H0 H' → K (.str t.1) H') :
  ∀ (q i : Nat) (H : Heap), 8 < q + i → i ≤ 8 → Keeps2 H0 H → F62_l0 (Ahs.runT ap n) lim N K q (.ptr (some (bx, 0))) (.str (t.1.take i)) (.int .i64 (i : Int)) H
 | 0, i, H, h1, h2, _ => by exfalso; omega
 | q + 1, i, H, hq, hi, k0 => by
  show F62_s0 _ _ _ _ (F62_l0 _ _ _ _ q) _ _ _ _
  unfold F62_s0
  have hl := t.2
  by_cases h8 : i < 8
  ·have hd : decide ((i : Int) < 8) = true := dT (by omega)
   have hj : natOf (.int .i64 (i : Int)) = some i := natOf_nat _ i
   have had : aindexAddr (some 8) 1 (.ptr (some (bx, 0))) (.int .i64 (i : Int)) = some (.ptr (some (bx, i))) := by
    unfold aindexAddr
    simp only [hj]
    rw [if_pos h8]; simp
   have hc := k0.cells hb
   have hx : t.1[i]? = some t.1[i] := List.getElem?_eq_getElem (by omega)
   have hld : aload H none (.ptr (some (bx, i))) = some (.int .u8 ((t.1[i].toNat : Nat) : Int)) := by
    rw [aload_one hc]
    unfold encB
    rw [List.getElem?_map, hx]; rfl
   have hf := fill_one (.int .u8 ((t.1[i].toNat : Nat) : Int)) rfl
   have hb1 := byte_one H (m := t.1[i].toNat) t.1[i].toNat_lt
   rw [UInt8.ofNat_toNat] at hb1
   have hs : abin .add (.str (t.1.take i)) (.str [t.1[i]]) = some (.str (t.1.take (i + 1))) := by
    rw [sadd (by rw [List.length_take]; simp; omega), List.take_succ_eq_append_getElem (by omega)]
   have hi1 : IntKind.i64.wrap ((i : Int) + 1) = ((i + 1 : Nat) : Int) := i64_succ (by omega)
   (repeat (with_reducible first | ((first | apply bindP_intro | apply bind2_intro); (focus (first | rfl | (simp only [walkS, reduceIte, hd, had, hld, hf, hb1, hs, hi1] <;> rfl)))) | apply cond_t | apply cond_f))
   exact text_loop hb hK q (i + 1) _ (by omega) (by omega) (k0.trans (.push _ _))
  ·have hd : decide ((i : Int) < 8) = false := dF (by omega)
   (repeat (with_reducible first | ((first | apply bindP_intro | apply bind2_intro); (focus (first | rfl | (simp only [walkS, reduceIte, hd] <;> rfl)))) | apply cond_t | apply cond_f))
   unfold F62_j0
   rw [List.take_of_length_le (by omega)]
   exact hK H k0
theorem text_c {n lim : Nat} (t : Tok) (hn : 10 ≤ n) : ∃ v H', Ahs.runT ap (n + 1) lim (.fn 62) [.agg (encB t.1)] H = some (v, H') ∧ v = .str t.1 ∧ Keeps2 H H' := by
 refine F62_run a62 ?_
 unfold F62
 have k1 : Keeps2 H (H.push (.cells (encB t.1))) := .push _ _
 (repeat (with_reducible first | ((first | apply bindP_intro | apply bind2_intro); (focus (first | rfl | (simp only [walkS, reduceIte, tok_cells, encB_one] <;> rfl)))) | apply cond_t | apply cond_f))
 exact text_loop (H0 := H.push (.cells (encB t.1))) (t := t) (cells_push_new _ _) (fun H' k => ⟨rfl, k1.trans k⟩) n 0 _ (by omega) (Nat.zero_le _) (.refl _)
theorem find_loop {n lim N : Nat} {K : AVal → Heap → Prop} {bx br s : Nat} {vT vP : AVal} {l : List Ten} {H : Heap} {z : List AVal} (hb : H.cells bx = some [vT, vP]) (hs : Sl H 5 vT (l.map rowT)) (hl : l.length ≤ 1000) (hr : H.cells br = some z) (hz : z.length = 4) (hlim : lim ≤ br) {Q : Quo × Bool}
  (hK : K (.tup [.agg (encQ Q.1), .bool Q.2]) (H.set br (.cells (encQ Q.1)))) :
  ∀ (q i : Nat), l.length < q + i → i ≤ l.length → lkT (l.drop i) s = Q → F32_l0 (Ahs.runT ap n) lim N K q (.int .u8 (s : Nat)) (.ptr (some (bx, 0))) (.ptr (some (br, 0))) (.int .i64 (i : Int)) H
 | 0, i, h1, h2, _ => by exfalso; omega
 | q + 1, i, hq, hi, hQ => by
  show F32_s0 _ _ _ _ (F32_l0 _ _ _ _ q) _ _ _ _ _
  unfold F32_s0
  have hld : aload H none (.ptr (some (bx, 0))) = some vT := by rw [aload_one hb]; rfl
  have hal : alen false vT = some (.int .i64 (l.length : Int)) := by have := hs.len; rw [List.length_map] at this; exact this
  have hst : ∀ q : Quo, astore lim H 4 (.ptr (some (br, 0))) (.agg (encQ q)) = some (H.set br (.cells (encQ q))) := fun q => by
   rw [astore_at (n := 4) (o := 0) (x := .agg (encQ q)) hr hlim rfl (by omega) rfl, put_all (by rw [hz]; rfl)]
   rfl
  have hl4 : ∀ q : Quo, aload (H.set br (.cells (encQ q))) (some 4) (.ptr (some (br, 0))) = some (.agg (encQ q)) := fun q => aload_all (cells_set_same (Heap.cells_lt hr)) rfl
  by_cases hil : i < l.length
  ·have hd : decide ((i : Int) < (l.length : Int)) = true := dT (by omega)
   have hx : l[i]? = some l[i] := List.getElem?_eq_getElem hil
   have hxr : (l.map rowT)[i]? = some (rowT l[i]) := by rw [List.getElem?_map, hx]; rfl
   have had := hs.addr (k := .i64) (i := i) (by rw [List.length_map]; exact hil)
   have hf0 : faddrO 0 (Ahs.slot vT (i * 5)) = some (Ahs.slot vT (i * 5)) := faddr_slot hs (by rw [List.length_map]; omega) (i * 5) 0
   have hf1 := faddr_slot hs (by rw [List.length_map]; omega) (i * 5) 1
   have h0 : aload H none (Ahs.slot vT (i * 5)) = some (.int .u8 (l[i].1 : Int)) := hs.loadf hxr (f := 0) (by omega)
   have h1 : aload H (some 4) (Ahs.slot vT (i * 5 + 1)) = some (.agg (encQ l[i].2)) := loadn hs hxr (f := 1) (k := 4) (by omega)
   have hdrop : l.drop i = l[i] :: l.drop (i + 1) := List.drop_eq_getElem_cons hil
   rw [hdrop] at hQ
   unfold lkT at hQ
   by_cases he : l[i].1 = s
   ·have e1 : ((l[i].1 : Int) == (s : Int)) = true := eqT (by omega)
    rw [if_pos he] at hQ
    subst hQ
    (repeat (with_reducible first | ((first | apply bindP_intro | apply bind2_intro); (focus (first | rfl | (simp only [walkS, reduceIte, hld, hal, hd, had, hf0, h0, e1, hf1, h1, hst, hl4] <;> rfl)))) | apply cond_t | apply cond_f))
    exact hK
   ·have e1 : ((l[i].1 : Int) == (s : Int)) = false := eqF (by omega)
    rw [if_neg he] at hQ
    have hi1 : IntKind.i64.wrap ((i : Int) + 1) = ((i + 1 : Nat) : Int) := i64_succ (by omega)
    (repeat (with_reducible first | ((first | apply bindP_intro | apply bind2_intro); (focus (first | rfl | (simp only [walkS, reduceIte, hld, hal, hd, had, hf0, h0, e1, hi1] <;> rfl)))) | apply cond_t | apply cond_f))
    exact find_loop hb hs hl hr hz hlim hK q (i + 1) (by omega) (by omega) hQ
  ·have hd : decide ((i : Int) < (l.length : Int)) = false := dF (by omega)
   rw [List.drop_eq_nil_of_le (by omega)] at hQ
   have hQ : (noQ, false) = Q := hQ
   subst hQ
   have hz0 : buildO z547173 [] = some (.agg (encQ noQ)) := rfl
   (repeat (with_reducible first | ((first | apply bindP_intro | apply bind2_intro); (focus (first | rfl | (simp only [walkS, reduceIte, hld, hal, hd] <;> rfl)))) | apply cond_t | apply cond_f))
   unfold F32_j0
   (repeat (with_reducible first | ((first | apply bindP_intro | apply bind2_intro); (focus (first | rfl | (simp only [walkS, reduceIte, hz0, hst, hl4] <;> rfl)))) | apply cond_t | apply cond_f))
   exact hK
theorem find_c {n lim s : Nat} {v : AVal} (h : R20 H v C) (hlim : lim ≤ H.next) (hs : s < 256) (hn : 10 ≤ n) : ∃ r H', Ahs.runT ap (n + 1) lim (.fn 32) [v, .int .u8 (s : Nat)] H = some (r, H') ∧ r = .tup [.agg (encQ (quotaC C s).1), .bool (quotaC C s).2] ∧ Keeps2 H H' := by
 obtain ⟨vT, vP, rfl, hT, hP, hpl⟩ := h.ex
 refine F32_run a32 ?_
 unfold F32
 have hc : (AVal.agg [vT, vP]).cells = [vT, vP] := rfl
 have ho : ([vT, vP].all fun v => v.one) = true := by simp [hT.one.1, hP.one.1]
 have k1 : Keeps2 H (H.push (.cells [vT, vP])) := .push _ _
 have n1 : (H.push (.cells [vT, vP])).next = H.next + 1 := Heap.next_push _ _
 have k2 : Keeps2 (H.push (.cells [vT, vP])) ((H.push (.cells [vT, vP])).push (.cells z547173)) := .push _ _
 have hlen := tenL_len C
 (repeat (with_reducible first | ((first | apply bindP_intro | apply bind2_intro); (focus (first | rfl | (simp only [walkS, reduceIte, hc, ho] <;> rfl)))) | apply cond_t | apply cond_f))
 refine find_loop (l := tenL C) (Q := quotaC C s) (z := z547173) (k2.cells (cells_push_new H _)) (hT.keep (k1.trans k2)).sl (by omega) (cells_push_new _ _) rfl (by omega) ⟨rfl, (k1.trans k2).setNew (by omega) _⟩ n 0 (by omega) (Nat.zero_le _) (by rw [List.drop_zero, lkT_ten])
theorem who_loop {n lim N : Nat} {K : AVal → Heap → Prop} {bx bt : Nat} {vT vP : AVal} {fs : List Ent} {H0 : Heap} {t : Tok} (hn : 11 ≤ n) (hb : H0.cells bx = some [vT, vP]) (hbp : ([vT, vP].all plainV) = true) (hs : Fz H0 3 vP (fs.map rowP)) (hpl : ∀ b, slBlk vP = some b → ∃ cs, H0.cells b = some cs ∧ cs.all plainV = true) (ht : H0.cells bt = some (encB t.1)) (hl : fs.length ≤ 1000) {Q : Nat × Nat × Bool}
  (hK : ∀ H', Keeps2 H0 H' → K (.tup [.int .u8 (Q.1 : Nat), .int .u8 (Q.2.1 : Nat), .bool Q.2.2]) H') :
  ∀ (q i : Nat) (H : Heap), fs.length < q + i → i ≤ fs.length → whoL (fs.drop i) t = Q → Keeps2 H0 H → F31_l0 (Ahs.runT ap n) lim N K q (.ptr (some (bx, 0))) (.ptr (some (bt, 0))) (.int .i64 (i : Int)) H
 | 0, i, H, h1, h2, _, _ => by exfalso; omega
 | q + 1, i, H, hq, hi, hQ, k0 => by
  show F31_s0 _ _ _ _ (F31_l0 _ _ _ _ q) _ _ _ _
  unfold F31_s0
  have hld : aload H none (.ptr (some (bx, 1))) = some vP := by rw [aload_one (k0.cells hb)]; rfl
  have hsl := (hs.keep k0).sl
  have hal : alen false vP = some (.int .i64 (fs.length : Int)) := by have := hsl.len; rw [List.length_map] at this; exact this
  by_cases hil : i < fs.length
  ·have hd : decide ((i : Int) < (fs.length : Int)) = true := dT (by omega)
   have hx : fs[i]? = some fs[i] := List.getElem?_eq_getElem hil
   have hxr : (fs.map rowP)[i]? = some (rowP fs[i]) := by rw [List.getElem?_map, hx]; rfl
   have had := hsl.addr (k := .i64) (i := i) (by rw [List.length_map]; exact hil)
   have hf0 : faddrO 0 (Ahs.slot vP (i * 3)) = some (Ahs.slot vP (i * 3)) := faddr_slot hsl (by rw [List.length_map]; omega) (i * 3) 0
   have hf1 := faddr_slot hsl (by rw [List.length_map]; omega) (i * 3) 1
   have hf2 := faddr_slot hsl (by rw [List.length_map]; omega) (i * 3) 2
   have h0 : aload H none (Ahs.slot vP (i * 3)) = some (.str fs[i].1.1) := hsl.loadf hxr (f := 0) (by omega)
   have htl : aload H (some 8) (.ptr (some (bt, 0))) = some (.agg (encB t.1)) := aload_all (k0.cells ht) (by rw [encB_len, t.2])
   obtain ⟨n', hn'⟩ : ∃ n', n = n' + 1 := ⟨n - 1, by omega⟩
   obtain ⟨_, H1, r1, rfl, k1⟩ := text_c (H := H) (n := n') (lim := lim) t (by omega)
   rw [← hn'] at r1
   have hkept : keptG none H H1 [.ptr (some (bx, 1)), Ahs.slot vP (i * 3)] := keptG_of k1 fun w hw b hb' => by
    simp only [List.mem_cons, List.not_mem_nil, or_false] at hw
    rcases hw with rfl | rfl
    ·simp only [blkOf, Option.some.injEq] at hb'
     subst hb'
     exact ⟨_, k0.cells hb, hbp⟩
    ·obtain ⟨cs, q1, q2⟩ := hpl b (blk_slot hb')
     exact ⟨cs, k0.cells q1, q2⟩
   have hdrop : fs.drop i = fs[i] :: fs.drop (i + 1) := List.drop_eq_getElem_cons hil
   rw [hdrop] at hQ
   unfold whoL at hQ
   by_cases he : fs[i].1 = t
   ·have e1 : (fs[i].1.1 == t.1) = true := by rw [he]; simp
    rw [if_pos he] at hQ
    subst hQ
    have hld1 := aload_keep k1 hld
    have h1 : aload H1 none (Ahs.slot vP (i * 3 + 1)) = some (.int .u8 (fs[i].2.1 : Int)) := (hsl.keep k1).loadf hxr (f := 1) (by omega)
    have h2 : aload H1 none (Ahs.slot vP (i * 3 + 2)) = some (.int .u8 (fs[i].2.2 : Int)) := (hsl.keep k1).loadf hxr (f := 2) (by omega)
    (repeat (with_reducible first | ((first | apply bindP_intro | apply bind2_intro); (focus (first | rfl | (simp only [walkS, reduceIte, hld, hal, hd, had, hf0, h0, htl, r1] <;> rfl)))) | apply cond_t | apply cond_f))
    refine ⟨hkept, ?_⟩
    (repeat (with_reducible first | ((first | apply bindP_intro | apply bind2_intro); (focus (first | rfl | (simp only [walkS, reduceIte, e1, hld1, had, hf1, h1, hf2, h2] <;> rfl)))) | apply cond_t | apply cond_f))
    exact hK H1 (k0.trans k1)
   ·have e1 : (fs[i].1.1 == t.1) = false := by
     have : ¬ fs[i].1.1 = t.1 := fun e => he (Subtype.ext e)
     simpa using this
    rw [if_neg he] at hQ
    have hi1 : IntKind.i64.wrap ((i : Int) + 1) = ((i + 1 : Nat) : Int) := i64_succ (by omega)
    (repeat (with_reducible first | ((first | apply bindP_intro | apply bind2_intro); (focus (first | rfl | (simp only [walkS, reduceIte, hld, hal, hd, had, hf0, h0, htl, r1] <;> rfl)))) | apply cond_t | apply cond_f))
    refine ⟨hkept, ?_⟩
    (repeat (with_reducible first | ((first | apply bindP_intro | apply bind2_intro); (focus (first | rfl | (simp only [walkS, reduceIte, e1, hi1] <;> rfl)))) | apply cond_t | apply cond_f))
    exact who_loop hn hb hbp hs hpl ht hl hK q (i + 1) H1 (by omega) (by omega) hQ (k0.trans k1)
  ·have hd : decide ((i : Int) < (fs.length : Int)) = false := dF (by omega)
   rw [List.drop_eq_nil_of_le (by omega)] at hQ
   have hQ : (0, 0, false) = Q := hQ
   subst hQ
   (repeat (with_reducible first | ((first | apply bindP_intro | apply bind2_intro); (focus (first | rfl | (simp only [walkS, reduceIte, hld, hal, hd] <;> rfl)))) | apply cond_t | apply cond_f))
   unfold F31_j0
   exact hK H k0
theorem fz_plain {sz : Nat} {v : AVal} {xs : List (List AVal)} (h : Fz H sz v xs) : plainV v = true := by
 rcases h.at' with ⟨rfl, _⟩ | ⟨b, o, c, cs, rfl, _⟩ <;> rfl
theorem rwho_c {n lim : Nat} {v : AVal} (h : R20 H v C) (hl : C.fs.length ≤ 1000) (hn : 1011 ≤ n) (t : Tok) : ∃ r H', Ahs.runT ap (n + 1) lim (.fn 31) [v, .agg (encB t.1)] H = some (r, H') ∧ r = .tup [.int .u8 ((whoC C t).1 : Int), .int .u8 ((whoC C t).2.1 : Int), .bool (whoC C t).2.2] ∧ Keeps2 H H' := by
 obtain ⟨vT, vP, rfl, hT, hP, hpl⟩ := h.ex
 refine F31_run a31 ?_
 unfold F31
 have hc : (AVal.agg [vT, vP]).cells = [vT, vP] := rfl
 have ho : ([vT, vP].all fun v => v.one) = true := by simp [hT.one.1, hP.one.1]
 have k1 : Keeps2 H (H.push (.cells [vT, vP])) := .push _ _
 have k2 : Keeps2 (H.push (.cells [vT, vP])) ((H.push (.cells [vT, vP])).push (.cells (encB t.1))) := .push _ _
 have k12 := k1.trans k2
 (repeat (with_reducible first | ((first | apply bindP_intro | apply bind2_intro); (focus (first | rfl | (simp only [walkS, reduceIte, hc, ho, tok_cells, encB_one] <;> rfl)))) | apply cond_t | apply cond_f))
 exact who_loop (fs := C.fs) (Q := whoC C t) (by omega) (k2.cells (cells_push_new H _)) (by simp [fz_plain hT, fz_plain hP]) (hP.keep k12) (fun b hb => by obtain ⟨cs, q1, q2⟩ := hpl b hb; exact ⟨cs, k12.cells q1, q2⟩) (cells_push_new _ _) hl (fun H' k => ⟨rfl, k12.trans k⟩) n 0 _ (by omega) (Nat.zero_le _) (by rw [List.drop_zero, whoL_who]) (.refl _)
end
def insG (x : Ten) : Bool → List Ten → List Ten
 | true, l => l
 | false, [] => [x]
 | false, y :: ys => if x.1 < y.1 then x :: y :: ys else y :: insG x false ys
def addL (s : Quo) (l : List Ten) : Quo := l.foldl (fun s y => addQ s y.2) s
theorem insG_len (x : Ten) : ∀ l, (insG x false l).length = l.length + 1
 | [] => rfl
 | y :: ys => by
  unfold insG
  split
  ·rfl
  ·rw [List.length_cons, insG_len x ys]; rfl
theorem ten_set {C : PCat} {s : Nat} {q : Quo} (hs : s < 4) (h0 : ¬ 0 < (C.q s).k) (hq : 0 < q.k) : insG (s, q) false (tenL C) = tenL (C.setQ s q) := by
 unfold tenL
 match s, hs, h0 with
 | 0, _, h0 =>
  have h0 : ¬ 0 < C.q0.k := h0
  by_cases h1 : 0 < C.q1.k <;> by_cases h2 : 0 < C.q2.k <;> by_cases h3 : 0 < C.q3.k <;>
   simp [PCat.setQ, PCat.q, h0, h1, h2, h3, hq, List.filter_cons, insG]
 | 1, _, h0 =>
  have h0 : ¬ 0 < C.q1.k := h0
  by_cases h1 : 0 < C.q0.k <;> by_cases h2 : 0 < C.q2.k <;> by_cases h3 : 0 < C.q3.k <;>
   simp [PCat.setQ, PCat.q, h0, h1, h2, h3, hq, List.filter_cons, insG]
 | 2, _, h0 =>
  have h0 : ¬ 0 < C.q2.k := h0
  by_cases h1 : 0 < C.q0.k <;> by_cases h2 : 0 < C.q1.k <;> by_cases h3 : 0 < C.q3.k <;>
   simp [PCat.setQ, PCat.q, h0, h1, h2, h3, hq, List.filter_cons, insG]
 | 3, _, h0 =>
  have h0 : ¬ 0 < C.q3.k := h0
  by_cases h1 : 0 < C.q0.k <;> by_cases h2 : 0 < C.q1.k <;> by_cases h3 : 0 < C.q2.k <;>
   simp [PCat.setQ, PCat.q, h0, h1, h2, h3, hq, List.filter_cons, insG]
theorem ten_sum {C : PCat} (hok : ∀ i, i < 4 → fitQ (C.q i)) (q : Quo) : (addL q (tenL C)).k = (sumQ C 4 0 q).k ∧ (addL q (tenL C)).b = (sumQ C 4 0 q).b ∧ (addL q (tenL C)).r = (sumQ C 4 0 q).r := by
 have z : ∀ i, i < 4 → ¬ 0 < (C.q i).k → C.q i = noQ := fun i hi h => (hok i hi).zero h
 have z0 := z 0 (by omega)
 have z1 := z 1 (by omega)
 have z2 := z 2 (by omega)
 have z3 := z 3 (by omega)
 simp only [PCat.q] at z0 z1 z2 z3
 simp only [sum_k, sum_b, sum_r]
 unfold tenL addL
 by_cases h0 : 0 < C.q0.k <;> by_cases h1 : 0 < C.q1.k <;> by_cases h2 : 0 < C.q2.k <;> by_cases h3 : 0 < C.q3.k <;>
  simp [PCat.q, h0, h1, h2, h3, List.filter_cons, addQ] <;> simp_all [noQ]
theorem tenL_fs (C : PCat) (fs : List Ent) : tenL { C with fs := fs } = tenL C := rfl
section
variable {n lim N : Nat} {Hb : Heap} {C : PCat}
def Out20 (H0 H' : Heap) (v : AVal) (o : Int × PCat) : Prop := (∃ v', v = .tup [v', .int .u8 o.1] ∧ R20 H' v' o.2) ∧ Keeps2 H0 H'
theorem ret_same {K : AVal → Heap → Prop} {H0 H : Heap} {bx br : Nat} {vT vP : AVal} {z : List AVal} (hx : H.cells bx = some [vT, vP]) (hr : H.cells br = some z) (hz : z.length = 2) (hlim : lim ≤ br) (h1 : vT.one = true ∧ vT.cells = [vT]) (h2 : vP.one = true ∧ vP.cells = [vP]) :
  aload H (some 2) (.ptr (some (bx, 0))) = some (.agg [vT, vP]) ∧ astore lim H 2 (.ptr (some (br, 0))) (.agg [vT, vP]) = some (H.set br (.cells [vT, vP])) ∧ aload (H.set br (.cells [vT, vP])) (some 2) (.ptr (some (br, 0))) = some (.agg [vT, vP]) := by
 refine ⟨aload_all hx rfl, ?_, aload_all (cells_set_same (Heap.cells_lt hr)) rfl⟩
 rw [astore_at (n := 2) (o := 0) (x := .agg [vT, vP]) hr hlim rfl (by omega) (by show ([vT, vP].all fun v => v.one) = true; simp [h1.1, h2.1]), put_all (by rw [hz]; rfl)]
 rfl
theorem rcreate_end {K : AVal → Heap → Prop} {H0 : Heap} {bx br s : Nat} {vT vP vo : AVal} {bo : Nat} {q S : Quo} {H : Heap} {z : List AVal} (hx : H.cells bx = some [vT, vP]) (hr : H.cells br = some z) (hz : z.length = 2) (hne : bx ≠ br) (hlx : lim ≤ bx) (hlr : lim ≤ br)
  (hT : Fz H 5 vT ((tenL C).map rowT)) (hP : Fz H 3 vP (C.fs.map rowP)) (hpl : ∀ b, slBlk vP = some b → ∃ cs, H.cells b = some cs ∧ cs.all plainV = true) (ho : Own H 5 vo ((tenL (C.setQ s q)).map rowT) bo)
  (hnew : ∀ b, slBlk vT = some b ∨ slBlk vP = some b ∨ b = bo → b ≠ bx ∧ b ≠ br) (k0 : Keeps2 H0 H) (gx : H0.next ≤ bx) (gr : H0.next ≤ br)
  (hK : ∀ v H', Out20 H0 H' v (if 48 < S.k ∨ 1536 < S.b ∨ 200 < S.r then (9, C) else (0, C.setQ s q)) → K v H') :
  F61_j0 (Ahs.runT ap n) lim N K (.ptr (some (bx, 0))) (.ptr (some (br, 0))) (.int .i64 S.k) (.int .i64 S.b) (.int .i64 S.r) vo H := by
 unfold F61_j0
 have oT := hT.one
 have oP := hP.one
 obtain ⟨r1, r2, r3⟩ := ret_same (K := K) (H0 := H0) (lim := lim) hx hr hz hlr oT oP
 have same : (48 < S.k ∨ 1536 < S.b ∨ 200 < S.r) → K (.tup [.agg [vT, vP], .int .u8 9]) (H.set br (.cells [vT, vP])) := fun h => by
  refine hK _ _ ?_
  rw [if_pos h]
  have fr : Fram (fun c => c = br) H (H.set br (.cells [vT, vP])) := Fram.set (S := fun c => c = br) rfl
  refine ⟨⟨_, rfl, vT, vP, rfl, hT.frame fr fun b hb e => (hnew b (.inl hb)).2 e, hP.frame fr fun b hb e => (hnew b (.inr (.inl hb))).2 e, fun b hb => ?_⟩, k0.setNew gr _⟩
  obtain ⟨cs, q1, q2⟩ := hpl b hb
  exact ⟨cs, cells_set_other q1 (hnew b (.inr (.inl hb))).2, q2⟩
 by_cases g1 : 48 < S.k
 ·have e1 : decide (48 < S.k) = true := dT g1
  (repeat (with_reducible first | ((first | apply bindP_intro | apply bind2_intro); (focus (first | rfl | (simp only [walkS, reduceIte, e1, r1, r2, r3] <;> rfl)))) | apply cond_t | apply cond_f))
  exact same (.inl g1)
 have e1 : decide (48 < S.k) = false := dF g1
 by_cases g2 : 1536 < S.b
 ·have e2 : decide (1536 < S.b) = true := dT g2
  (repeat (with_reducible first | ((first | apply bindP_intro | apply bind2_intro); (focus (first | rfl | (simp only [walkS, reduceIte, e1, e2, r1, r2, r3] <;> rfl)))) | apply cond_t | apply cond_f))
  exact same (.inr (.inl g2))
 have e2 : decide (1536 < S.b) = false := dF g2
 by_cases g3 : 200 < S.r
 ·have e3 : decide (200 < S.r) = true := dT g3
  (repeat (with_reducible first | ((first | apply bindP_intro | apply bind2_intro); (focus (first | rfl | (simp only [walkS, reduceIte, e1, e2, e3, r1, r2, r3] <;> rfl)))) | apply cond_t | apply cond_f))
  exact same (.inr (.inr g3))
 have e3 : decide (200 < S.r) = false := dF g3
 have oO := ho.one
 have st1 : astore lim H 1 (.ptr (some (bx, 0))) vo = some (H.set bx (.cells [vo, vP])) := astore_cell hx hlx oO.2 oO.1 (by show 0 < 2; omega) rfl
 have x1 : (H.set bx (.cells [vo, vP])).cells bx = some [vo, vP] := cells_set_same (Heap.cells_lt hx)
 have rr1 : (H.set bx (.cells [vo, vP])).cells br = some z := cells_set_other hr (Ne.symm hne)
 obtain ⟨s1, s2, s3⟩ := ret_same (K := K) (H0 := H0) (lim := lim) x1 rr1 hz hlr ⟨oO.1, oO.2⟩ oP
 (repeat (with_reducible first | ((first | apply bindP_intro | apply bind2_intro); (focus (first | rfl | (simp only [walkS, reduceIte, e1, e2, e3, st1, s1, s2, s3] <;> rfl)))) | apply cond_t | apply cond_f))
 refine hK _ _ ?_
 rw [if_neg (by omega)]
 have fr1 : Fram (fun c => c = bx ∨ c = br) H (H.set bx (.cells [vo, vP])) := Fram.set (S := fun c => c = bx ∨ c = br) (.inl rfl)
 have fr : Fram (fun c => c = bx ∨ c = br) H ((H.set bx (.cells [vo, vP])).set br (.cells [vo, vP])) := fr1.trans (Fram.set (S := fun c => c = bx ∨ c = br) (.inr rfl)) fun _ _ e => e
 have hn2 : ∀ b, slBlk vT = some b ∨ slBlk vP = some b ∨ b = bo → ¬ (b = bx ∨ b = br) := fun b hb e => by
  obtain ⟨q1, q2⟩ := hnew b hb
  rcases e with e | e
  ·exact q1 e
  ·exact q2 e
 refine ⟨⟨_, rfl, vo, vP, rfl, ?_, ?_, fun b hb => ?_⟩, (k0.setNew gx _).setNew gr _⟩
 ·exact Own.fz (ho.frame fr (hn2 bo (.inr (.inr rfl))))
 ·rw [setQ_fs]
  exact hP.frame fr fun b hb => hn2 b (.inr (.inl hb))
 ·obtain ⟨cs, q1, q2⟩ := hpl b hb
  exact ⟨cs, fr.cells q1 (hn2 b (.inr (.inl hb))), q2⟩
theorem rcreate_loop {K : AVal → Heap → Prop} {H0 : Heap} {bx bq br s : Nat} {vT vP : AVal} {q S : Quo} {z : List AVal} (hok : OkC C) (hx : Hb.cells bx = some [vT, vP]) (hq : Hb.cells bq = some (encQ q)) (hr : Hb.cells br = some z) (hz : z.length = 2) (hne : bx ≠ br)
  (hT : Fz Hb 5 vT ((tenL C).map rowT)) (hP : Fz Hb 3 vP (C.fs.map rowP)) (hpl : ∀ b, slBlk vP = some b → ∃ cs, Hb.cells b = some cs ∧ cs.all plainV = true)
  (hnew : ∀ b, slBlk vT = some b ∨ slBlk vP = some b → b < H0.next) (k0 : Keeps2 H0 Hb) (gx : H0.next ≤ bx) (gr : H0.next ≤ br) (hlim : lim ≤ H0.next) (hF : insG (s, q) false (tenL C) = tenL (C.setQ s q))
  (hS : (addL q (tenL C)).k = S.k ∧ (addL q (tenL C)).b = S.b ∧ (addL q (tenL C)).r = S.r)
  (hK : ∀ v H', Out20 H0 H' v (if 48 < S.k ∨ 1536 < S.b ∨ 200 < S.r then (9, C) else (0, C.setQ s q)) → K v H') :
  ∀ (f i : Nat) (cur : Quo) (done : Bool) (vo : AVal) (bo : Nat) (out : List Ten) (H : Heap), (tenL C).length < f + i → i ≤ (tenL C).length → out.length ≤ i + 1 → Keeps2 Hb H → Own H 5 vo (out.map rowT) bo → Hb.next ≤ bo → out ++ insG (s, q) done ((tenL C).drop i) = tenL (C.setQ s q) →
   addL cur ((tenL C).drop i) = addL q (tenL C) → (0 ≤ cur.k ∧ cur.k ≤ 16 + 16 * i) → (0 ≤ cur.b ∧ cur.b ≤ 512 + 512 * i) → (0 ≤ cur.r ∧ cur.r ≤ 100 + 100 * i) →
   F61_l0 (Ahs.runT ap n) lim N K f (.int .u8 (s : Nat)) (.ptr (some (bx, 0))) (.ptr (some (bq, 0))) (.ptr (some (br, 0))) (.int .i64 cur.k) (.int .i64 cur.b) (.int .i64 cur.r) vo (.bool done) (.int .i64 (i : Int)) H
 | 0, i, cur, done, vo, bo, out, H, h1, h2, _, _, _, _, _, _, _, _, _ => by exfalso; omega
 | f + 1, i, cur, done, vo, bo, out, H, hf, hi, hol, kb, ho, hbo, hout, hcur, b1, b2, b3 => by
  show F61_s0 _ _ _ _ (F61_l0 _ _ _ _ f) _ _ _ _ _ _ _ _ _ _ _
  unfold F61_s0
  have hlen := tenL_len C
  have hsl := (hT.keep kb).sl
  have hld : aload H none (.ptr (some (bx, 0))) = some vT := by rw [aload_one (kb.cells hx)]; rfl
  have hal : alen false vT = some (.int .i64 ((tenL C).length : Int)) := by have := hsl.len; rw [List.length_map] at this; exact this
  have kbn := kb.next
  have k0n := k0.next
  have row : ∀ (G : Heap) (vo : AVal) (bo : Nat) (out : List Ten) (x : Ten), Keeps2 Hb G → Own G 5 vo (out.map rowT) bo → Hb.next ≤ bo → out.length ≤ 100 →
    ∃ v' G' b', aappend lim (G.push (.cells (rowT x))) ze67900 40 false vo (.sl (some (G.next, 0)) 1 (.ex 1)) = some (v', G') ∧ Own G' 5 v' ((out ++ [x]).map rowT) b' ∧ Hb.next ≤ b' ∧ Keeps2 Hb G' := fun G vo bo out x kG oG bG hl => by
   obtain ⟨v', G', b', q1, q2, q3, q4⟩ := push_row (lim := lim) (sz := 5) (bytes := 40) (zero := ze67900) oG bG (by omega) kG rfl (by decide) (rowT_ok x) (by rw [List.length_map]; unfold room; omega) (by rw [List.length_map]; unfold room; omega)
   exact ⟨v', G', b', q1, by rw [List.map_append]; exact q2, q3, q4⟩
  have fin : ∀ (G : Heap) (vo : AVal) (bo : Nat), Keeps2 Hb G → Own G 5 vo ((tenL (C.setQ s q)).map rowT) bo → Hb.next ≤ bo → addL q (tenL C) = cur → F61_j0 (Ahs.runT ap n) lim N K (.ptr (some (bx, 0))) (.ptr (some (br, 0))) (.int .i64 cur.k) (.int .i64 cur.b) (.int .i64 cur.r) vo G := fun G vo bo kG oG bG hcu => by
   have lx := Heap.cells_lt hx
   have lr := Heap.cells_lt hr
   rw [← hcu, hS.1, hS.2.1, hS.2.2]
   refine rcreate_end (S := S) (H0 := H0) (kG.cells hx) (kG.cells hr) hz hne (by omega) (by omega) (hT.keep kG) (hP.keep kG) (fun b hb => by obtain ⟨cs, q1, q2⟩ := hpl b hb; exact ⟨cs, kG.cells q1, q2⟩) oG (fun b hb => ?_) (k0.trans kG) gx gr hK
   rcases hb with hb | hb | hb
   ·have := hnew b (.inl hb); omega
   ·have := hnew b (.inr hb); omega
   ·omega
  by_cases hil : i < (tenL C).length
  ·have hd : decide ((i : Int) < ((tenL C).length : Int)) = true := dT (by omega)
   obtain ⟨y, hy⟩ : ∃ y, y = (tenL C)[i] := ⟨_, rfl⟩
   have hx5 : (tenL C)[i]? = some y := by rw [hy]; exact List.getElem?_eq_getElem hil
   have hmem := tenL_mem (List.mem_of_getElem? hx5)
   have hfy : fitQ y.2 := by rw [hmem.2.1]; exact hok.fit _ hmem.1
   have hle := hfy.le
   have hxr : ((tenL C).map rowT)[i]? = some (rowT y) := by rw [List.getElem?_map, hx5]; rfl
   have hml : i < ((tenL C).map rowT).length := by rw [List.length_map]; exact hil
   have had := hsl.addr (k := .i64) (i := i) hml
   have a0 : faddrO 0 (Ahs.slot vT (i * 5)) = some (Ahs.slot vT (i * 5)) := faddr_slot hsl (by omega) (i * 5) 0
   have a1 : faddrO 1 (Ahs.slot vT (i * 5)) = some (Ahs.slot vT (i * 5 + 1)) := faddr_slot hsl (by omega) (i * 5) 1
   have a10 : faddrO 0 (Ahs.slot vT (i * 5 + 1)) = some (Ahs.slot vT (i * 5 + 1)) := faddr_slot hsl (by omega) (i * 5 + 1) 0
   have a11 : faddrO 1 (Ahs.slot vT (i * 5 + 1)) = some (Ahs.slot vT (i * 5 + 1 + 1)) := faddr_slot hsl (by omega) (i * 5 + 1) 1
   have a12 : faddrO 2 (Ahs.slot vT (i * 5 + 1)) = some (Ahs.slot vT (i * 5 + 1 + 2)) := faddr_slot hsl (by omega) (i * 5 + 1) 2
   have l0 : aload H none (Ahs.slot vT (i * 5)) = some (.int .u8 (y.1 : Int)) := hsl.loadf hxr (f := 0) (by omega)
   have l1 : aload H none (Ahs.slot vT (i * 5 + 1)) = some (.int .i64 y.2.k) := hsl.loadf hxr (f := 1) (by omega)
   have l2 : aload H none (Ahs.slot vT (i * 5 + 1 + 1)) = some (.int .i64 y.2.b) := hsl.loadf hxr (f := 2) (by omega)
   have l3 : aload H none (Ahs.slot vT (i * 5 + 1 + 2)) = some (.int .i64 y.2.r) := hsl.loadf hxr (f := 3) (by omega)
   have w1 : IntKind.i64.wrap (cur.k + y.2.k) = cur.k + y.2.k := wrap_i64 (by omega) (by omega)
   have w2 : IntKind.i64.wrap (cur.b + y.2.b) = cur.b + y.2.b := wrap_i64 (by omega) (by omega)
   have w3 : IntKind.i64.wrap (cur.r + y.2.r) = cur.r + y.2.r := wrap_i64 (by omega) (by omega)
   have hi1 : IntKind.i64.wrap ((i : Int) + 1) = ((i + 1 : Nat) : Int) := i64_succ (by omega)
   have hfr := fill_row (z := ze67900) (sz := 5) rfl (rowT_ok y).1
   have hdrop : (tenL C).drop i = y :: (tenL C).drop (i + 1) := by rw [hy]; exact List.drop_eq_getElem_cons hil
   rw [hdrop] at hout hcur
   have hcur2 : addL (addQ cur y.2) ((tenL C).drop (i + 1)) = addL q (tenL C) := hcur
   have next : ∀ (G : Heap) (vo : AVal) (bo : Nat) (out : List Ten) (done : Bool), Keeps2 Hb G → Own G 5 vo (out.map rowT) bo → Hb.next ≤ bo → out.length ≤ i + 1 → (out ++ [y]) ++ insG (s, q) done ((tenL C).drop (i + 1)) = tenL (C.setQ s q) →
     F61_j2 (Ahs.runT ap n) lim N K (F61_l0 (Ahs.runT ap n) lim N K f) (.int .u8 (s : Nat)) (.ptr (some (bx, 0))) (.ptr (some (bq, 0))) (.ptr (some (br, 0))) (.int .i64 (cur.k + y.2.k)) (.int .i64 (cur.b + y.2.b)) (.int .i64 (cur.r + y.2.r)) vo (.bool done) (.int .i64 (i : Int)) G := fun G vo bo out done kG oG bG hl he => by
    unfold F61_j2
    have hslG := (hT.keep kG).sl
    have hldG : aload G none (.ptr (some (bx, 0))) = some vT := by rw [aload_one (kG.cells hx)]; rfl
    have hadG := hslG.addr (k := .i64) (i := i) hml
    have l5 : aload G (some 5) (Ahs.slot vT (i * 5)) = some (.agg (rowT y)) := hslG.load hxr
    obtain ⟨v', G', b', q1, q2, q3, q4⟩ := row G vo bo out y kG oG bG (by omega)
    (repeat (with_reducible first | ((first | apply bindP_intro | apply bind2_intro); (focus (first | rfl | (simp only [walkS, reduceIte, hldG, hadG, l5, hfr, q1, hi1] <;> rfl)))) | apply cond_t | apply cond_f))
    refine rcreate_loop hok hx hq hr hz hne hT hP hpl hnew k0 gx gr hlim hF hS hK f (i + 1) (addQ cur y.2) done v' b' (out ++ [y]) G' (by omega) (by omega) (by rw [List.length_append]; simp; omega) q4 q2 q3 he hcur2 ?_ ?_ ?_
    ·show 0 ≤ cur.k + y.2.k ∧ cur.k + y.2.k ≤ _; omega
    ·show 0 ≤ cur.b + y.2.b ∧ cur.b + y.2.b ≤ _; omega
    ·show 0 ≤ cur.r + y.2.r ∧ cur.r + y.2.r ≤ _; omega
   have hlq : (insG (s, q) false (tenL C)).length = (tenL C).length + 1 := insG_len _ _
   cases done with
   | true =>
    have he : (out ++ [y]) ++ insG (s, q) true ((tenL C).drop (i + 1)) = tenL (C.setQ s q) := by rw [← hout]; simp [insG]
    (repeat (with_reducible first | ((first | apply bindP_intro | apply bind2_intro); (focus (first | rfl | (simp only [walkS, reduceIte, hld, hal, hd, had, a1, a10, l1, w1, a11, l2, w2, a12, l3, w3] <;> rfl)))) | apply cond_t | apply cond_f))
    exact next H vo bo out true kb ho hbo (by
     have := congrArg List.length he
     rw [← hF, hlq] at this
     simp only [List.length_append, insG, List.length_drop, List.length_cons, List.length_nil] at this
     omega) he
   | false =>
    have hol2 : out.length = i := by
     have := congrArg List.length hout
     rw [← hF, hlq] at this
     simp only [List.length_append, insG_len, List.length_drop, List.length_cons] at this
     omega
    by_cases hgt : s < y.1
    ·have d1 : decide ((s : Int) < (y.1 : Int)) = true := dT (by omega)
     have hqv : aload H (some 4) (.ptr (some (bq, 0))) = some (.agg (encQ q)) := aload_all (kb.cells hq) rfl
     have hb : buildO ze67900 [(0, 1, .int .u8 (s : Nat)), (1, 4, .agg (encQ q))] = some (.agg (rowT (s, q))) := rfl
     have hfq := fill_row (z := ze67900) (sz := 5) rfl (rowT_ok (s, q)).1
     obtain ⟨v', G', b', q1, q2, q3, q4⟩ := row H vo bo out (s, q) kb ho hbo (by omega)
     (repeat (with_reducible first | ((first | apply bindP_intro | apply bind2_intro); (focus (first | rfl | (simp only [walkS, reduceIte, hld, hal, hd, had, a1, a10, l1, w1, a11, l2, w2, a12, l3, w3, a0, l0, d1, hqv, hb, hfq, q1] <;> rfl)))) | apply cond_t | apply cond_f))
     refine next G' v' b' (out ++ [(s, q)]) true q4 q2 q3 (by rw [List.length_append]; simp; omega) ?_
     rw [← hout]
     unfold insG
     rw [if_pos hgt]
     simp
    ·have d1 : decide ((s : Int) < (y.1 : Int)) = false := dF (by omega)
     (repeat (with_reducible first | ((first | apply bindP_intro | apply bind2_intro); (focus (first | rfl | (simp only [walkS, reduceIte, hld, hal, hd, had, a1, a10, l1, w1, a11, l2, w2, a12, l3, w3, a0, l0, d1] <;> rfl)))) | apply cond_t | apply cond_f))
     refine next H vo bo out false kb ho hbo (by omega) ?_
     rw [← hout]
     conv => rhs; unfold insG
     rw [if_neg hgt]
     simp
  ·have hd : decide ((i : Int) < ((tenL C).length : Int)) = false := dF (by omega)
   rw [List.drop_eq_nil_of_le (by omega)] at hout hcur
   have hcu : addL q (tenL C) = cur := hcur.symm
   (repeat (with_reducible first | ((first | apply bindP_intro | apply bind2_intro); (focus (first | rfl | (simp only [walkS, reduceIte, hld, hal, hd] <;> rfl)))) | apply cond_t | apply cond_f))
   unfold F61_j1
   cases done with
   | true =>
    have he : out = tenL (C.setQ s q) := by rw [← hout]; simp [insG]
    rw [he] at ho
    (repeat (with_reducible first | ((first | apply bindP_intro | apply bind2_intro); (focus (first | rfl | (simp only [walkS, reduceIte] <;> rfl)))) | apply cond_t | apply cond_f))
    exact fin H vo bo kb ho hbo hcu
   | false =>
    have hqv : aload H (some 4) (.ptr (some (bq, 0))) = some (.agg (encQ q)) := aload_all (kb.cells hq) rfl
    have hb : buildO ze67900 [(0, 1, .int .u8 (s : Nat)), (1, 4, .agg (encQ q))] = some (.agg (rowT (s, q))) := rfl
    have hfq := fill_row (z := ze67900) (sz := 5) rfl (rowT_ok (s, q)).1
    obtain ⟨v', G', b', q1, q2, q3, q4⟩ := row H vo bo out (s, q) kb ho hbo (by omega)
    have he : out ++ [(s, q)] = tenL (C.setQ s q) := by rw [← hout]; rfl
    rw [he] at q2
    (repeat (with_reducible first | ((first | apply bindP_intro | apply bind2_intro); (focus (first | rfl | (simp only [walkS, reduceIte, hqv, hb, hfq, q1] <;> rfl)))) | apply cond_t | apply cond_f))
    exact fin G' v' b' q4 q2 q3 hcu
theorem rcreate_c {s : Nat} {H : Heap} {v : AVal} (h : R20 H v C) (hok : OkC C) (hlim : lim ≤ H.next) (hs : s < 256) (q : Quo) (hn : 20 ≤ n) : ∃ r H', Ahs.runT ap (n + 1) lim (.fn 61) [v, .int .u8 (s : Nat), .agg (encQ q)] H = some (r, H') ∧ Out20 H H' r (createC C s q) := by
 obtain ⟨vT, vP, rfl, hT, hP, hpl⟩ := h.ex
 refine F61_run a61 ?_
 unfold F61
 have hc : (AVal.agg [vT, vP]).cells = [vT, vP] := rfl
 have ho : ([vT, vP].all fun v => v.one) = true := by simp [hT.one.1, hP.one.1]
 have hcq : (AVal.agg (encQ q)).cells = encQ q := rfl
 have hoq : ((encQ q).all fun v => v.one) = true := rfl
 have n1 : (H.push (.cells [vT, vP])).next = H.next + 1 := Heap.next_push _ _
 have n2 : ((H.push (.cells [vT, vP])).push (.cells (encQ q))).next = H.next + 2 := by rw [Heap.next_push, n1]
 obtain ⟨G, hG⟩ : ∃ G, G = ((H.push (.cells [vT, vP])).push (.cells (encQ q))).push (.cells zf3f7a3) := ⟨_, rfl⟩
 have kG : Keeps2 H G := by rw [hG]; exact ((Keeps2.push _ _).trans (.push _ _)).trans (.push _ _)
 have nG : G.next = H.next + 3 := by rw [hG, Heap.next_push, n2]
 have cx : G.cells H.next = some [vT, vP] := by rw [hG]; exact cells_push_old (cells_push_old (cells_push_new H _))
 have cq : G.cells (H.next + 1) = some (encQ q) := by rw [hG, ← n1]; exact cells_push_old (cells_push_new _ _)
 have cr : G.cells (H.next + 2) = some zf3f7a3 := by rw [hG, ← n2]; exact cells_push_new _ _
 have TG := hT.keep kG
 have PG := hP.keep kG
 have hlow : ∀ b, slBlk vT = some b ∨ slBlk vP = some b → b < H.next := fun b hb => by
  rcases hb with hb | hb
  ·exact hT.lt b hb
  ·exact hP.lt b hb
 have same : ∀ (G' : Heap) (code : Int), Keeps2 G G' → createC C s q = (code, C) → Out20 H (G'.set (H.next + 2) (.cells [vT, vP])) (.tup [.agg [vT, vP], .int .u8 code]) (createC C s q) := fun G' code k' e => by
  rw [e]
  have kH := kG.trans k'
  have fr : Fram (fun c => c = H.next + 2) G' (G'.set (H.next + 2) (.cells [vT, vP])) := Fram.set (S := fun c => c = H.next + 2) rfl
  refine ⟨⟨_, rfl, vT, vP, rfl, (hT.keep kH).frame fr fun b hb e => ?_, (hP.keep kH).frame fr fun b hb e => ?_, fun b hb => ?_⟩, kH.setNew (by omega) _⟩
  ·have := hlow b (.inl hb); omega
  ·have := hlow b (.inr hb); omega
  ·obtain ⟨cs, q1, q2⟩ := hpl b hb
   have := hlow b (.inr hb)
   exact ⟨cs, cells_set_other (kH.cells q1) (by omega), q2⟩
 have lq : aload G (some 4) (.ptr (some (H.next + 1, 0))) = some (.agg (encQ q)) := aload_all cq rfl
 by_cases h4 : 4 ≤ s
 ·have d4 : decide ((3 : Int) < (s : Int)) = true := dT (by omega)
  have e : createC C s q = (11, C) := by unfold createC; rw [if_pos (.inl h4)]
  obtain ⟨r1, r2, r3⟩ := ret_same (K := fun _ _ => True) (H0 := H) (lim := lim) cx cr rfl (by omega) hT.one hP.one
  (repeat (with_reducible first | ((first | apply bindP_intro | apply bind2_intro); (focus (first | rfl | (simp only [walkS, reduceIte, hc, ho, hcq, hoq, n1, n2, d4, ← hG, r1, r2, r3] <;> rfl)))) | apply cond_t | apply cond_f))
  exact same G 11 (.refl _) e
 have d4 : decide ((3 : Int) < (s : Int)) = false := dF (by omega)
 obtain ⟨n', hn'⟩ : ∃ n', n = n' + 1 := ⟨n - 1, by omega⟩
 obtain ⟨_, G2, g2, rfl, k2⟩ := rright_c (H := G) (n := n') (lim := lim) q
 rw [← hn'] at g2
 cases hr : rightQ q with
 | false =>
  rw [hr] at g2
  have e : createC C s q = (11, C) := by unfold createC; rw [if_pos (.inr hr)]
  obtain ⟨r1, r2, r3⟩ := ret_same (K := fun _ _ => True) (H0 := H) (lim := lim) (k2.cells cx) (k2.cells cr) rfl (by omega) hT.one hP.one
  (repeat (with_reducible first | ((first | apply bindP_intro | apply bind2_intro); (focus (first | rfl | (simp only [walkS, reduceIte, hc, ho, hcq, hoq, n1, n2, d4, ← hG, lq, g2, r1, r2, r3] <;> rfl)))) | apply cond_t | apply cond_f))
  exact same G2 11 k2 e
 | true =>
  rw [hr] at g2
  have k2n := k2.next
  have R2 : R20 G2 (.agg [vT, vP]) C := h.keep (kG.trans k2)
  obtain ⟨_, G3, g3, rfl, k3⟩ := find_c (n := n') (lim := lim) (s := s) R2 (by omega) hs (by omega)
  rw [← hn'] at g3
  have k3n := k3.next
  have hl2 : aload G2 (some 2) (.ptr (some (H.next, 0))) = some (.agg [vT, vP]) := aload_all (k2.cells cx) rfl
  have hqc : quotaC C s = if 0 < (C.q s).k then (C.q s, true) else (noQ, false) := by
   unfold quotaC
   by_cases hk : 0 < (C.q s).k
   ·rw [if_pos ⟨by omega, hk⟩, if_pos hk]
   ·rw [if_neg (fun e => hk e.2), if_neg hk]
  have hst : astore lim (G3.push (.cells z547173)) 4 (.ptr (some (G3.next, 0))) (.agg (encQ (quotaC C s).1)) = some (G3.push (.cells (encQ (quotaC C s).1))) := astore_new (cs := z547173) (x := .agg (encQ (quotaC C s).1)) (by omega) rfl rfl rfl
  have k4 : Keeps2 G3 (G3.push (.cells (encQ (quotaC C s).1))) := .push _ _
  generalize hG4 : G3.push (.cells (encQ (quotaC C s).1)) = G4 at *
  have k24 := (k2.trans k3).trans k4
  by_cases hk : 0 < (C.q s).k
  ·rw [if_pos hk] at hqc
   have e : createC C s q = (10, C) := by unfold createC; rw [if_neg (by rw [hr]; simp; omega), if_pos hk]
   have e2 : (quotaC C s).2 = true := by rw [hqc]
   rw [e2] at g3
   obtain ⟨r1, r2, r3⟩ := ret_same (K := fun _ _ => True) (H0 := H) (lim := lim) (k24.cells cx) (k24.cells cr) rfl (by omega) hT.one hP.one
   (repeat (with_reducible first | ((first | apply bindP_intro | apply bind2_intro); (focus (first | rfl | (simp only [walkS, reduceIte, hc, ho, hcq, hoq, n1, n2, d4, ← hG, lq, g2, hl2, g3, hst, hG4, r1, r2, r3] <;> rfl)))) | apply cond_t | apply cond_f))
   exact same G4 10 k24 e
  ·rw [if_neg hk] at hqc
   have e : createC C s q = if 48 < (sumQ C 4 0 q).k ∨ 1536 < (sumQ C 4 0 q).b ∨ 200 < (sumQ C 4 0 q).r then (9, C) else (0, C.setQ s q) := by
    unfold createC; rw [if_neg (by rw [hr]; simp; omega), if_neg hk]
   have e2 : (quotaC C s).2 = false := by rw [hqc]
   rw [e2] at g3
   have cq4 := k24.cells cq
   have l0 : aload G4 none (.ptr (some (H.next + 1, 0))) = some (.int .i64 q.k) := by rw [aload_one cq4]; rfl
   have l1 : aload G4 none (.ptr (some (H.next + 1, 1))) = some (.int .i64 q.b) := by rw [aload_one cq4]; rfl
   have l2 : aload G4 none (.ptr (some (H.next + 1, 2))) = some (.int .i64 q.r) := by rw [aload_one cq4]; rfl
   have hle := (fitQ.le (.inr hr) : _)
   have kH4 := kG.trans k24
   have hF := ten_set (C := C) (q := q) (show s < 4 by omega) hk (right_pos hr)
   have hlen := tenL_len C
   (repeat (with_reducible first | ((first | apply bindP_intro | apply bind2_intro); (focus (first | rfl | (simp only [walkS, reduceIte, hc, ho, hcq, hoq, n1, n2, d4, ← hG, lq, g2, hl2, g3, hst, hG4, l0, l1, l2] <;> rfl)))) | apply cond_t | apply cond_f))
   rw [e]
   exact rcreate_loop (H0 := H) (S := sumQ C 4 0 q) (Hb := G4) hok (k24.cells cx) cq4 (k24.cells cr) rfl (by omega) (hT.keep kH4) (hP.keep kH4) (fun b hb => by obtain ⟨cs, q1, q2⟩ := hpl b hb; exact ⟨cs, kH4.cells q1, q2⟩) hlow kH4 (Nat.le_refl _) (by omega) hlim hF (ten_sum hok.fit q)
    (fun v H' hO => hO) n 0 q false (.sl none 0 (.ex 0)) G4.next [] G4 (by omega) (Nat.zero_le _) (by simp) (.refl _) ⟨fun x hx => by simp at hx, .inl ⟨rfl, rfl⟩⟩ (Nat.le_refl _) (by rw [List.drop_zero]; exact hF) (by rw [List.drop_zero]) (by omega) (by omega) (by omega)
end
theorem ten_del (C : PCat) {s : Nat} (hs : s < 4) (f : List Ent) : tenL { C.setQ s noQ with fs := f } = (tenL C).filter fun x => !decide (x.1 = s) := by
 unfold tenL
 match s, hs with
 | 0, _ | 1, _ | 2, _ | 3, _ =>
  by_cases h0 : 0 < C.q0.k <;> by_cases h1 : 0 < C.q1.k <;> by_cases h2 : 0 < C.q2.k <;> by_cases h3 : 0 < C.q3.k <;>
   simp [PCat.setQ, PCat.q, h0, h1, h2, h3, List.filter_cons, noQ]
theorem plain_rowP (x : Ent) : (rowP x).all plainV = true := rfl
theorem plain_rows (l : List Ent) : (l.map rowP).flatten.all plainV = true := by
 induction l with
 | nil => rfl
 | cons x l ih => rw [List.map_cons, List.flatten_cons, List.all_append, plain_rowP, ih]; rfl
def OwnN (H : Heap) (sz : Nat) (v : AVal) (xs : List (List AVal)) (bv : Nat) : Prop := Own H sz v xs bv ∧ (xs = [] → v = .sl none 0 (.ex 0))
theorem OwnN.cells {H : Heap} {sz : Nat} {v : AVal} {xs : List (List AVal)} {bv : Nat} (h : OwnN H sz v xs bv) : ∀ b, slBlk v = some b → b = bv ∧ H.cells bv = some xs.flatten := by
 intro b hb
 refine ⟨h.1.blk b hb, ?_⟩
 rcases h.1.2 with ⟨rfl, _⟩ | ⟨o, cs, e, rfl, _⟩ | ⟨_, hc⟩
 ·simp [slBlk] at hb
 ·rw [h.2 rfl] at hb; simp [slBlk] at hb
 ·exact hc
theorem push_own {lim sz bytes : Nat} {zero : List AVal} {H0 H : Heap} {vo : AVal} {rows : List (List AVal)} {bo : Nat} {y : List AVal} (ho : OwnN H sz vo rows bo) (hb : H0.next ≤ bo) (hlim : lim ≤ H0.next) (k0 : Keeps2 H0 H) (hz : zero.length = sz) (hs : 0 < sz)
  (hy : y.length = sz ∧ y.all (·.one) = true) (hroom : (rows.length + 1) * bytes ≤ room) (hroom2 : rows.length + 1 ≤ room) :
  ∃ v' H' b', aappend lim (H.push (.cells y)) zero bytes false vo (.sl (some (H.next, 0)) 1 (.ex 1)) = some (v', H') ∧ OwnN H' sz v' (rows ++ [y]) b' ∧ H.next ≤ b' ∧ Keeps2 H0 H' ∧ Fram (fun c => c = bo) H H' := by
 have k1 : Keeps2 H (H.push (.cells y)) := .push _ _
 have o1 : Own (H.push (.cells y)) sz vo rows bo := ho.1.frame (.of (S := fun _ => False) k1) (fun e => e)
 have hsrc : source (H.push (.cells y)) sz (.sl (some (H.next, 0)) 1 (.ex 1)) = some (([y] : List (List AVal)).length, ([y] : List (List AVal)).flatten) := by
  rw [source_new H (n := 1) (by rw [hy.1]; omega) (by decide)]
  simp
 obtain ⟨v', H', b', h1, h2, h3, h4, h5⟩ := own_append (lim := lim) (zero := zero) (bytes := bytes) o1 hz hs hsrc (fun z hz => by simp at hz; subst hz; exact hy) (by simpa using hroom) (by simpa using hroom2) (fun _ => by omega)
 have hkn := k1.next
 have fr : Fram (fun c => c = bo) H H' := (Fram.of (S := fun c => c = bo) k1).trans (h3 : Fram _ _ _) fun c _ e => o1.blk c e
 refine ⟨v', H', b', h1, ⟨h2, fun e => by simp at e⟩, ?_, Fram.keeps k0 fr fun c hc e => by omega, fr⟩
 rcases h4 with ⟨_, e | e⟩ | e
 ·simp at e
 ·exact e.elim
 ·omega
theorem out_same {H0 G : Heap} {vT vP : AVal} {br : Nat} {C : PCat} (h : R20 H0 (.agg [vT, vP]) C) (k : Keeps2 H0 G) (hb : H0.next ≤ br) (code : Int) : Out20 H0 (G.set br (.cells [vT, vP])) (.tup [.agg [vT, vP], .int .u8 code]) (code, C) := by
 obtain ⟨uT, uP, e, hT, hP, hpl⟩ := h.ex
 simp only [AVal.agg.injEq, List.cons.injEq, and_true] at e
 obtain ⟨rfl, rfl⟩ := e
 have fr : Fram (fun c => c = br) G (G.set br (.cells [vT, vP])) := Fram.set (S := fun c => c = br) rfl
 refine ⟨⟨_, rfl, vT, vP, rfl, (hT.keep k).frame fr fun b hb e => ?_, (hP.keep k).frame fr fun b hb e => ?_, fun b hb => ?_⟩, k.setNew hb _⟩
 ·have := hT.lt b hb; omega
 ·have := hP.lt b hb; omega
 ·obtain ⟨cs, q1, q2⟩ := hpl b hb
  have := hP.lt b hb
  exact ⟨cs, cells_set_other (k.cells q1) (by omega), q2⟩
section
variable {n lim N : Nat} {Hb : Heap} {C : PCat}
end
def insP (x : Ent) : Bool → List Ent → List Ent
 | true, l => l
 | false, [] => [x]
 | false, y :: ys => if x.1.1 < y.1.1 then x :: y :: ys else y :: insP x false ys
theorem insP_eq (x : Ent) : ∀ l, insP x false l = insT x l
 | [] => rfl
 | y :: ys => by unfold insP insT; rw [insP_eq x ys]
theorem insT_len (x : Ent) (l : List Ent) : (insT x l).length = l.length + 1 := (insT_perm x l).length_eq
section
variable {n lim N : Nat} {Hb : Heap} {C : PCat}
theorem p_end {H0 H : Heap} {bx br : Nat} {vT vP vo : AVal} {bo : Nat} {F : List Ent} {z : List AVal} (hx : H.cells bx = some [vT, vP]) (hr : H.cells br = some z) (hz : z.length = 2) (hne : bx ≠ br) (hlx : lim ≤ bx) (hlr : lim ≤ br)
  (hT : Fz H 5 vT ((tenL C).map rowT)) (ho : OwnN H 3 vo (F.map rowP) bo) (hnT : ∀ b, slBlk vT = some b → b ≠ bx ∧ b ≠ br) (hno : bo ≠ bx ∧ bo ≠ br) (k0 : Keeps2 H0 H) (gx : H0.next ≤ bx) (gr : H0.next ≤ br) :
  astore lim H 1 (.ptr (some (bx, 1))) vo = some (H.set bx (.cells [vT, vo])) ∧ aload (H.set bx (.cells [vT, vo])) (some 2) (.ptr (some (bx, 0))) = some (.agg [vT, vo]) ∧
   astore lim (H.set bx (.cells [vT, vo])) 2 (.ptr (some (br, 0))) (.agg [vT, vo]) = some ((H.set bx (.cells [vT, vo])).set br (.cells [vT, vo])) ∧ aload ((H.set bx (.cells [vT, vo])).set br (.cells [vT, vo])) (some 2) (.ptr (some (br, 0))) = some (.agg [vT, vo]) ∧
   Out20 H0 ((H.set bx (.cells [vT, vo])).set br (.cells [vT, vo])) (.tup [.agg [vT, vo], .int .u8 0]) (0, { C with fs := F }) := by
 have oT := hT.one
 have oO := ho.1.one
 have st1 : astore lim H 1 (.ptr (some (bx, 1))) vo = some (H.set bx (.cells [vT, vo])) := astore_cell hx hlx oO.2 oO.1 (by show 1 < 2; omega) rfl
 have x1 : (H.set bx (.cells [vT, vo])).cells bx = some [vT, vo] := cells_set_same (Heap.cells_lt hx)
 have rr1 : (H.set bx (.cells [vT, vo])).cells br = some z := cells_set_other hr (Ne.symm hne)
 obtain ⟨s1, s2, s3⟩ := ret_same (K := fun _ _ => True) (H0 := H0) (lim := lim) x1 rr1 hz hlr oT ⟨oO.1, oO.2⟩
 have fr1 : Fram (fun c => c = bx ∨ c = br) H (H.set bx (.cells [vT, vo])) := Fram.set (S := fun c => c = bx ∨ c = br) (.inl rfl)
 have fr : Fram (fun c => c = bx ∨ c = br) H ((H.set bx (.cells [vT, vo])).set br (.cells [vT, vo])) := fr1.trans (Fram.set (S := fun c => c = bx ∨ c = br) (.inr rfl)) fun _ _ e => e
 refine ⟨st1, s1, s2, s3, ⟨_, rfl, vT, vo, rfl, hT.frame fr fun b hb e => ?_, Own.fz (ho.1.frame fr fun e => ?_), fun b hb => ?_⟩, (k0.setNew gx _).setNew gr _⟩
 ·obtain ⟨q1, q2⟩ := hnT b hb
  rcases e with e | e
  ·exact q1 e
  ·exact q2 e
 ·rcases e with e | e
  ·exact hno.1 e
  ·exact hno.2 e
 ·obtain ⟨rfl, hcc⟩ := ho.cells b hb
  exact ⟨_, fr.cells hcc (fun e => by rcases e with e | e; exact hno.1 e; exact hno.2 e), plain_rows _⟩
theorem radd_end {K : AVal → Heap → Prop} {bx br : Nat} {vT vP vo : AVal} {bo many : Nat} {x : Ent} {H0 H : Heap} {z : List AVal} (hx : H.cells bx = some [vT, vP]) (hr : H.cells br = some z) (hz : z.length = 2) (hne : bx ≠ br) (hR : R20 H0 (.agg [vT, vP]) C)
  (ho : OwnN H 3 vo ((insT x C.fs).map rowP) bo) (hno : bo ≠ bx ∧ bo ≠ br) (k0 : Keeps2 H0 H) (gx : H0.next ≤ bx) (gr : H0.next ≤ br) (hlim : lim ≤ H0.next)
  (hK : ∀ v H', Out20 H0 H' v (if 4 ≤ many then (9, C) else (0, { C with fs := insT x C.fs })) → K v H') :
  F63_j0 (Ahs.runT ap n) lim N K (.ptr (some (bx, 0))) (.ptr (some (br, 0))) (.int .i64 (many : Int)) vo H := by
 unfold F63_j0
 obtain ⟨uT, uP, e, hT, hP, hpl⟩ := hR.ex
 simp only [AVal.agg.injEq, List.cons.injEq, and_true] at e
 obtain ⟨rfl, rfl⟩ := e
 by_cases hm : 4 ≤ many
 ·have d : decide ((4 : Int) ≤ (many : Int)) = true := dT (by omega)
  obtain ⟨r1, r2, r3⟩ := ret_same (K := K) (H0 := H0) (lim := lim) hx hr hz (by omega) hT.one hP.one
  rw [if_pos hm] at hK
  (repeat (with_reducible first | ((first | apply bindP_intro | apply bind2_intro); (focus (first | rfl | (simp only [walkS, reduceIte, d, r1, r2, r3] <;> rfl)))) | apply cond_t | apply cond_f))
  exact hK _ _ (out_same hR k0 gr 9)
 ·have d : decide ((4 : Int) ≤ (many : Int)) = false := dF (by omega)
  obtain ⟨e1, e2, e3, e4, e5⟩ := p_end (lim := lim) (H0 := H0) hx hr hz hne (by omega) (by omega) (hT.keep k0) ho (fun b hb => by have := hT.lt b hb; omega) hno k0 gx gr
  rw [if_neg hm] at hK
  (repeat (with_reducible first | ((first | apply bindP_intro | apply bind2_intro); (focus (first | rfl | (simp only [walkS, reduceIte, d, e1, e2, e3, e4] <;> rfl)))) | apply cond_t | apply cond_f))
  exact hK _ _ e5
theorem radd_loop {K : AVal → Heap → Prop} {bx br bq s : Nat} {vT vP : AVal} {x : Ent} {H0 : Heap} {z : List AVal} (hx : Hb.cells bx = some [vT, vP]) (hr : Hb.cells br = some z) (hq : Hb.cells bq = some (rowP x)) (hz : z.length = 2) (hne : bx ≠ br) (hlfs : C.fs.length ≤ 1000) (hR : R20 H0 (.agg [vT, vP]) C)
  (k0 : Keeps2 H0 Hb) (gx : H0.next ≤ bx) (gr : H0.next ≤ br) (hlim : lim ≤ H0.next)
  (hK : ∀ v H', Out20 H0 H' v (if 4 ≤ manyC C.fs s then (9, C) else (0, { C with fs := insT x C.fs })) → K v H') :
  ∀ (f i many : Nat) (done : Bool) (vo : AVal) (bo : Nat) (out : List Ent) (H : Heap), C.fs.length < f + i → i ≤ C.fs.length → many ≤ i → Keeps2 Hb H → OwnN H 3 vo (out.map rowP) bo → Hb.next ≤ bo → out ++ insP x done (C.fs.drop i) = insT x C.fs → many + manyC (C.fs.drop i) s = manyC C.fs s →
   F63_l0 (Ahs.runT ap n) lim N K f (.int .u8 (s : Nat)) (.ptr (some (bx, 0))) (.ptr (some (br, 0))) (.int .i64 (many : Int)) (.ptr (some (bq, 0))) vo (.bool done) (.int .i64 (i : Int)) H
 | 0, i, many, done, vo, bo, out, H, h1, h2, _, _, _, _, _, _ => by exfalso; omega
 | f + 1, i, many, done, vo, bo, out, H, hf, hi, hml, kb, ho, hbo, hout, hcnt => by
  show F63_s0 _ _ _ _ (F63_l0 _ _ _ _ f) _ _ _ _ _ _ _ _ _
  unfold F63_s0
  obtain ⟨uT, uP, e, hT, hP, hpl⟩ := hR.ex
  simp only [AVal.agg.injEq, List.cons.injEq, and_true] at e
  obtain ⟨rfl, rfl⟩ := e
  have hsl := ((hP.keep k0).keep kb).sl
  have kbn := kb.next
  have k0n := k0.next
  have lx := Heap.cells_lt hx
  have lr := Heap.cells_lt hr
  have hld : aload H none (.ptr (some (bx, 1))) = some vP := by rw [aload_one (kb.cells hx)]; rfl
  have hal : alen false vP = some (.int .i64 (C.fs.length : Int)) := by have := hsl.len; rw [List.length_map] at this; exact this
  have hlout : out.length ≤ 2000 := by
   have := congrArg List.length hout
   rw [List.length_append, insT_len] at this
   omega
  have row : ∀ (G : Heap) (vo : AVal) (bo : Nat) (out : List Ent) (x : Ent), Keeps2 Hb G → OwnN G 3 vo (out.map rowP) bo → Hb.next ≤ bo → out.length ≤ 3000 →
    ∃ v' G' b', aappend lim (G.push (.cells (rowP x))) zafa8ae 24 false vo (.sl (some (G.next, 0)) 1 (.ex 1)) = some (v', G') ∧ OwnN G' 3 v' ((out ++ [x]).map rowP) b' ∧ Hb.next ≤ b' ∧ Keeps2 Hb G' := fun G vo bo out x kG oG bG hl => by
   obtain ⟨v', G', b', q1, q2, q3, q4, q5⟩ := push_own (lim := lim) (sz := 3) (bytes := 24) (zero := zafa8ae) oG bG (by omega) kG rfl (by decide) (rowP_ok x) (by rw [List.length_map]; unfold room; omega) (by rw [List.length_map]; unfold room; omega)
   have kGn := kG.next
   exact ⟨v', G', b', q1, by rw [List.map_append]; exact q2, by omega, q4⟩
  have hqv : ∀ G, Keeps2 Hb G → aload G (some 3) (.ptr (some (bq, 0))) = some (.agg (rowP x)) := fun G kG => aload_all (kG.cells hq) rfl
  have hfx := fill_row (z := zafa8ae) (sz := 3) rfl (rowP_ok x).1
  have fin : ∀ (G : Heap) (vo : AVal) (bo : Nat), Keeps2 Hb G → OwnN G 3 vo ((insT x C.fs).map rowP) bo → Hb.next ≤ bo → manyC C.fs s = many → F63_j0 (Ahs.runT ap n) lim N K (.ptr (some (bx, 0))) (.ptr (some (br, 0))) (.int .i64 (many : Int)) vo G := fun G vo bo kG oG bG hmm => by
   rw [hmm] at hK
   exact radd_end (H0 := H0) (kG.cells hx) (kG.cells hr) hz hne hR oG (by omega) (k0.trans kG) gx gr hlim hK
  by_cases hil : i < C.fs.length
  ·have hd : decide ((i : Int) < (C.fs.length : Int)) = true := dT (by omega)
   obtain ⟨y, hy⟩ : ∃ y, y = C.fs[i] := ⟨_, rfl⟩
   have hx5 : C.fs[i]? = some y := by rw [hy]; exact List.getElem?_eq_getElem hil
   have hxr : (C.fs.map rowP)[i]? = some (rowP y) := by rw [List.getElem?_map, hx5]; rfl
   have hmlt : i < (C.fs.map rowP).length := by rw [List.length_map]; exact hil
   have had := hsl.addr (k := .i64) (i := i) hmlt
   have a0 : faddrO 0 (Ahs.slot vP (i * 3)) = some (Ahs.slot vP (i * 3)) := faddr_slot hsl (by omega) (i * 3) 0
   have a1 : faddrO 1 (Ahs.slot vP (i * 3)) = some (Ahs.slot vP (i * 3 + 1)) := faddr_slot hsl (by omega) (i * 3) 1
   have l0 : aload H none (Ahs.slot vP (i * 3)) = some (.str y.1.1) := hsl.loadf hxr (f := 0) (by omega)
   have l1 : aload H none (Ahs.slot vP (i * 3 + 1)) = some (.int .u8 (y.2.1 : Int)) := hsl.loadf hxr (f := 1) (by omega)
   have lq0 : aload H none (.ptr (some (bq, 0))) = some (.str x.1.1) := by rw [aload_one (kb.cells hq)]; rfl
   have hi1 : IntKind.i64.wrap ((i : Int) + 1) = ((i + 1 : Nat) : Int) := i64_succ (by omega)
   have hm1 : IntKind.i64.wrap ((many : Int) + 1) = ((many + 1 : Nat) : Int) := i64_succ (by omega)
   have hfr := fill_row (z := zafa8ae) (sz := 3) rfl (rowP_ok y).1
   have hdrop : C.fs.drop i = y :: C.fs.drop (i + 1) := by rw [hy]; exact List.drop_eq_getElem_cons hil
   rw [hdrop] at hout hcnt
   have hgs := gtS y.1.1 x.1.1
   have mid : ∀ many', many' ≤ i + 1 → many' + manyC (C.fs.drop (i + 1)) s = manyC C.fs s → F63_j3 (Ahs.runT ap n) lim N K (F63_l0 (Ahs.runT ap n) lim N K f) (.int .u8 (s : Nat)) (.ptr (some (bx, 0))) (.ptr (some (br, 0))) (.int .i64 (many' : Int)) (.ptr (some (bq, 0))) vo (.bool done) (.int .i64 (i : Int)) H := fun many' hm' hc' => by
    have next : ∀ (G : Heap) (vo : AVal) (bo : Nat) (out : List Ent) (done : Bool), Keeps2 Hb G → OwnN G 3 vo (out.map rowP) bo → Hb.next ≤ bo → out.length ≤ 3000 → (out ++ [y]) ++ insP x done (C.fs.drop (i + 1)) = insT x C.fs →
      F63_j2 (Ahs.runT ap n) lim N K (F63_l0 (Ahs.runT ap n) lim N K f) (.int .u8 (s : Nat)) (.ptr (some (bx, 0))) (.ptr (some (br, 0))) (.int .i64 (many' : Int)) (.ptr (some (bq, 0))) vo (.bool done) (.int .i64 (i : Int)) G := fun G vo bo out done kG oG bG hl he => by
     unfold F63_j2
     have hslG := ((hP.keep k0).keep kG).sl
     have hldG : aload G none (.ptr (some (bx, 1))) = some vP := by rw [aload_one (kG.cells hx)]; rfl
     have hadG := hslG.addr (k := .i64) (i := i) hmlt
     have l3 : aload G (some 3) (Ahs.slot vP (i * 3)) = some (.agg (rowP y)) := hslG.load hxr
     obtain ⟨v', G', b', q1, q2, q3, q4⟩ := row G vo bo out y kG oG bG (by omega)
     (repeat (with_reducible first | ((first | apply bindP_intro | apply bind2_intro); (focus (first | rfl | (simp only [walkS, reduceIte, hldG, hadG, l3, hfr, q1, hi1] <;> rfl)))) | apply cond_t | apply cond_f))
     exact radd_loop hx hr hq hz hne hlfs hR k0 gx gr hlim hK f (i + 1) many' done v' b' (out ++ [y]) G' (by omega) (by omega) (by omega) q4 q2 q3 he hc'
    unfold F63_j3
    cases done with
    | true =>
     (repeat (with_reducible first | ((first | apply bindP_intro | apply bind2_intro); (focus (first | rfl | (simp only [walkS, reduceIte] <;> rfl)))) | apply cond_t | apply cond_f))
     exact next H vo bo out true kb ho hbo (by omega) (by rw [← hout]; simp [insP])
    | false =>
     by_cases hgt : x.1.1 < y.1.1
     ·have e1 : decide (x.1.1 < y.1.1) = true := dT hgt
      rw [e1] at hgs
      obtain ⟨v', G', b', q1, q2, q3, q4⟩ := row H vo bo out x kb ho hbo (by omega)
      (repeat (with_reducible first | ((first | apply bindP_intro | apply bind2_intro); (focus (first | rfl | (simp only [walkS, reduceIte, hld, had, a0, l0, lq0, hgs, hqv H kb, hfx, q1] <;> rfl)))) | apply cond_t | apply cond_f))
      refine next G' v' b' (out ++ [x]) true q4 q2 q3 (by rw [List.length_append]; simp; omega) ?_
      rw [← hout]
      unfold insP
      rw [if_pos hgt]
      simp
     ·have e1 : decide (x.1.1 < y.1.1) = false := dF hgt
      rw [e1] at hgs
      (repeat (with_reducible first | ((first | apply bindP_intro | apply bind2_intro); (focus (first | rfl | (simp only [walkS, reduceIte, hld, had, a0, l0, lq0, hgs] <;> rfl)))) | apply cond_t | apply cond_f))
      refine next H vo bo out false kb ho hbo (by omega) ?_
      rw [← hout]
      conv => rhs; unfold insP
      rw [if_neg hgt]
      simp
   have hcc : manyC (y :: C.fs.drop (i + 1)) s = manyC (C.fs.drop (i + 1)) s + if y.2.1 = s then 1 else 0 := by
    unfold manyC
    rw [List.countP_cons]
    simp
   rw [hcc] at hcnt
   by_cases he : y.2.1 = s
   ·have e1 : ((y.2.1 : Int) == (s : Int)) = true := eqT (by omega)
    rw [if_pos he] at hcnt
    (repeat (with_reducible first | ((first | apply bindP_intro | apply bind2_intro); (focus (first | rfl | (simp only [walkS, reduceIte, hld, hal, hd, had, a1, l1, e1, hm1] <;> rfl)))) | apply cond_t | apply cond_f))
    exact mid (many + 1) (by omega) (by omega)
   ·have e1 : ((y.2.1 : Int) == (s : Int)) = false := eqF (by omega)
    rw [if_neg he] at hcnt
    (repeat (with_reducible first | ((first | apply bindP_intro | apply bind2_intro); (focus (first | rfl | (simp only [walkS, reduceIte, hld, hal, hd, had, a1, l1, e1] <;> rfl)))) | apply cond_t | apply cond_f))
    exact mid many (by omega) (by omega)
  ·have hd : decide ((i : Int) < (C.fs.length : Int)) = false := dF (by omega)
   rw [List.drop_eq_nil_of_le (by omega)] at hout hcnt
   have hmm : manyC C.fs s = many := by rw [← hcnt]; simp [manyC]
   (repeat (with_reducible first | ((first | apply bindP_intro | apply bind2_intro); (focus (first | rfl | (simp only [walkS, reduceIte, hld, hal, hd] <;> rfl)))) | apply cond_t | apply cond_f))
   unfold F63_j1
   cases done with
   | true =>
    have he : out = insT x C.fs := by rw [← hout]; simp [insP]
    rw [he] at ho
    (repeat (with_reducible first | ((first | apply bindP_intro | apply bind2_intro); (focus (first | rfl | (simp only [walkS, reduceIte] <;> rfl)))) | apply cond_t | apply cond_f))
    exact fin H vo bo kb ho hbo hmm
   | false =>
    obtain ⟨v', G', b', q1, q2, q3, q4⟩ := row H vo bo out x kb ho hbo (by omega)
    have he : out ++ [x] = insT x C.fs := by rw [← hout]; rfl
    rw [he] at q2
    (repeat (with_reducible first | ((first | apply bindP_intro | apply bind2_intro); (focus (first | rfl | (simp only [walkS, reduceIte, hqv H kb, hfx, q1] <;> rfl)))) | apply cond_t | apply cond_f))
    exact fin G' v' b' q4 q2 q3 hmm
theorem radd_c {s r : Nat} {H : Heap} {v : AVal} (h : R20 H v C) (hlfs : C.fs.length ≤ 1000) (hlim : lim ≤ H.next) (hs : s < 256) (hr : r < 256) (hn : 2020 ≤ n) (t : Tok) : ∃ o H', Ahs.runT ap (n + 1) lim (.fn 63) [v, .int .u8 (s : Nat), .agg (encB t.1), .int .u8 (r : Nat)] H = some (o, H') ∧ Out20 H H' o (prinC C s t r) := by
 obtain ⟨vT, vP, rfl, hT, hP, hpl⟩ := h.ex
 refine F63_run a63 ?_
 unfold F63
 have hc : (AVal.agg [vT, vP]).cells = [vT, vP] := rfl
 have ho : ([vT, vP].all fun v => v.one) = true := by simp [hT.one.1, hP.one.1]
 have n1 : (H.push (.cells [vT, vP])).next = H.next + 1 := Heap.next_push _ _
 have n2 : ((H.push (.cells [vT, vP])).push (.cells (encB t.1))).next = H.next + 2 := by rw [Heap.next_push, n1]
 obtain ⟨G, hG⟩ : ∃ G, G = ((H.push (.cells [vT, vP])).push (.cells (encB t.1))).push (.cells zf3f7a3) := ⟨_, rfl⟩
 have kG : Keeps2 H G := by rw [hG]; exact ((Keeps2.push _ _).trans (.push _ _)).trans (.push _ _)
 have nG : G.next = H.next + 3 := by rw [hG, Heap.next_push, n2]
 have cx : G.cells H.next = some [vT, vP] := by rw [hG]; exact cells_push_old (cells_push_old (cells_push_new H _))
 have ct : G.cells (H.next + 1) = some (encB t.1) := by rw [hG, ← n1]; exact cells_push_old (cells_push_new _ _)
 have cr : G.cells (H.next + 2) = some zf3f7a3 := by rw [hG, ← n2]; exact cells_push_new _ _
 have lt : aload G (some 8) (.ptr (some (H.next + 1, 0))) = some (.agg (encB t.1)) := aload_all ct (by rw [encB_len, t.2])
 have same : ∀ (G' : Heap) (code : Int), Keeps2 G G' → (aload G' (some 2) (.ptr (some (H.next, 0))) = some (.agg [vT, vP]) ∧ astore lim G' 2 (.ptr (some (H.next + 2, 0))) (.agg [vT, vP]) = some (G'.set (H.next + 2) (.cells [vT, vP])) ∧ aload (G'.set (H.next + 2) (.cells [vT, vP])) (some 2) (.ptr (some (H.next + 2, 0))) = some (.agg [vT, vP])) ∧
   Out20 H (G'.set (H.next + 2) (.cells [vT, vP])) (.tup [.agg [vT, vP], .int .u8 code]) (code, C) := fun G' code k' =>
  ⟨ret_same (K := fun _ _ => True) (H0 := H) (lim := lim) (k'.cells cx) (k'.cells cr) rfl (by omega) hT.one hP.one, out_same h (kG.trans k') (by omega) code⟩
 by_cases h4 : 4 ≤ s
 ·have d4 : decide ((3 : Int) < (s : Int)) = true := dT (by omega)
  obtain ⟨⟨r1, r2, r3⟩, o⟩ := same G 11 (.refl _)
  (repeat (with_reducible first | ((first | apply bindP_intro | apply bind2_intro); (focus (first | rfl | (simp only [walkS, reduceIte, hc, ho, tok_cells, encB_one, n1, n2, d4, ← hG, r1, r2, r3] <;> rfl)))) | apply cond_t | apply cond_f))
  rw [show prinC C s t r = (11, C) by unfold prinC; rw [if_pos (.inl h4)]]
  exact o
 have d4 : decide ((3 : Int) < (s : Int)) = false := dF (by omega)
 by_cases hr1 : r < 1
 ·have d1 : decide ((r : Int) < 1) = true := dT (by omega)
  obtain ⟨⟨r1, r2, r3⟩, o⟩ := same G 11 (.refl _)
  (repeat (with_reducible first | ((first | apply bindP_intro | apply bind2_intro); (focus (first | rfl | (simp only [walkS, reduceIte, hc, ho, tok_cells, encB_one, n1, n2, d4, d1, ← hG, r1, r2, r3] <;> rfl)))) | apply cond_t | apply cond_f))
  rw [show prinC C s t r = (11, C) by unfold prinC; rw [if_pos (.inr (.inl hr1))]]
  exact o
 have d1 : decide ((r : Int) < 1) = false := dF (by omega)
 by_cases hr3 : 3 < r
 ·have d3 : decide ((3 : Int) < (r : Int)) = true := dT (by omega)
  obtain ⟨⟨r1, r2, r3⟩, o⟩ := same G 11 (.refl _)
  (repeat (with_reducible first | ((first | apply bindP_intro | apply bind2_intro); (focus (first | rfl | (simp only [walkS, reduceIte, hc, ho, tok_cells, encB_one, n1, n2, d4, d1, d3, ← hG, r1, r2, r3] <;> rfl)))) | apply cond_t | apply cond_f))
  rw [show prinC C s t r = (11, C) by unfold prinC; rw [if_pos (.inr (.inr (.inl hr3)))]]
  exact o
 have d3 : decide ((3 : Int) < (r : Int)) = false := dF (by omega)
 obtain ⟨n', hn'⟩ : ∃ n', n = n' + 1 := ⟨n - 1, by omega⟩
 obtain ⟨_, G1, g1, rfl, k1⟩ := text_c (H := G) (n := n') (lim := lim) t (by omega)
 rw [← hn'] at g1
 by_cases hop : t = opTok
 ·have eo : (t.1 == [111, 112, 101, 114, 97, 116, 111, 114]) = true := by rw [hop]; rfl
  obtain ⟨⟨r1, r2, r3⟩, o⟩ := same G1 11 k1
  (repeat (with_reducible first | ((first | apply bindP_intro | apply bind2_intro); (focus (first | rfl | (simp only [walkS, reduceIte, hc, ho, tok_cells, encB_one, n1, n2, d4, d1, d3, ← hG, lt, g1, eo, r1, r2, r3] <;> rfl)))) | apply cond_t | apply cond_f))
  rw [show prinC C s t r = (11, C) by unfold prinC; rw [if_pos (.inr (.inr (.inr hop)))]]
  exact o
 have eo : (t.1 == [111, 112, 101, 114, 97, 116, 111, 114]) = false := by
  have : ¬ t.1 = [111, 112, 101, 114, 97, 116, 111, 114] := fun e => hop (Subtype.ext e)
  simpa using this
 have hno : ¬ (4 ≤ s ∨ r < 1 ∨ 3 < r ∨ t = opTok) := by rintro (q | q | q | q) <;> first | omega | exact hop q
 have k1n := k1.next
 have hl1 : aload G1 (some 2) (.ptr (some (H.next, 0))) = some (.agg [vT, vP]) := aload_all (k1.cells cx) rfl
 obtain ⟨_, G3, g3, rfl, k3⟩ := find_c (n := n') (lim := lim) (s := s) (h.keep (kG.trans k1)) (by omega) hs (by omega)
 rw [← hn'] at g3
 have k3n := k3.next
 have hqc : quotaC C s = if 0 < (C.q s).k then (C.q s, true) else (noQ, false) := by
  unfold quotaC
  by_cases hk : 0 < (C.q s).k
  ·rw [if_pos ⟨by omega, hk⟩, if_pos hk]
  ·rw [if_neg (fun e => hk e.2), if_neg hk]
 have hst : astore lim (G3.push (.cells z547173)) 4 (.ptr (some (G3.next, 0))) (.agg (encQ (quotaC C s).1)) = some (G3.push (.cells (encQ (quotaC C s).1))) := astore_new (cs := z547173) (x := .agg (encQ (quotaC C s).1)) (by omega) rfl rfl rfl
 have k4 : Keeps2 G3 (G3.push (.cells (encQ (quotaC C s).1))) := .push _ _
 generalize hG4 : G3.push (.cells (encQ (quotaC C s).1)) = G4 at *
 have k14 := (k1.trans k3).trans k4
 have k4n := k4.next
 by_cases hk : 0 < (C.q s).k
 case neg =>
  rw [if_neg hk] at hqc
  have e2 : (quotaC C s).2 = false := by rw [hqc]
  rw [e2] at g3
  obtain ⟨⟨r1, r2, r3⟩, o⟩ := same G4 1 k14
  (repeat (with_reducible first | ((first | apply bindP_intro | apply bind2_intro); (focus (first | rfl | (simp only [walkS, reduceIte, hc, ho, tok_cells, encB_one, n1, n2, d4, d1, d3, ← hG, lt, g1, eo, hl1, g3, hst, hG4, r1, r2, r3] <;> rfl)))) | apply cond_t | apply cond_f))
  rw [show prinC C s t r = (1, C) by unfold prinC; rw [if_neg hno, if_neg hk]]
  exact o
 rw [if_pos hk] at hqc
 have e2 : (quotaC C s).2 = true := by rw [hqc]
 rw [e2] at g3
 have hl4 : aload G4 (some 2) (.ptr (some (H.next, 0))) = some (.agg [vT, vP]) := aload_all (k14.cells cx) rfl
 have lt4 : aload G4 (some 8) (.ptr (some (H.next + 1, 0))) = some (.agg (encB t.1)) := aload_all (k14.cells ct) (by rw [encB_len, t.2])
 obtain ⟨_, G5, g5, rfl, k5⟩ := rwho_c (n := n') (lim := lim) (h.keep (kG.trans k14)) hlfs (by omega) t
 rw [← hn'] at g5
 have k15 := k14.trans k5
 have k5n := k5.next
 cases hw : (whoC C t).2.2 with
 | true =>
  rw [hw] at g5
  obtain ⟨⟨r1, r2, r3⟩, o⟩ := same G5 10 k15
  (repeat (with_reducible first | ((first | apply bindP_intro | apply bind2_intro); (focus (first | rfl | (simp only [walkS, reduceIte, hc, ho, tok_cells, encB_one, n1, n2, d4, d1, d3, ← hG, lt, g1, eo, hl1, g3, hst, hG4, hl4, lt4, g5, r1, r2, r3] <;> rfl)))) | apply cond_t | apply cond_f))
  rw [show prinC C s t r = (10, C) by unfold prinC; rw [if_neg hno, if_pos hk, hw, if_pos rfl]]
  exact o
 | false =>
  rw [hw] at g5
  have lt5 := aload_keep k5 lt4
  obtain ⟨_, G6, g6, rfl, k6⟩ := text_c (H := G5) (n := n') (lim := lim) t (by omega)
  rw [← hn'] at g6
  have k6n := k6.next
  have hb : buildO zafa8ae [(0, 1, .str t.1), (1, 1, .int .u8 (s : Nat)), (2, 1, .int .u8 (r : Nat))] = some (.agg (rowP (t, s, r))) := rfl
  have hsx : astore lim (G6.push (.cells zafa8ae)) 3 (.ptr (some (G6.next, 0))) (.agg (rowP (t, s, r))) = some (G6.push (.cells (rowP (t, s, r)))) := astore_new (cs := zafa8ae) (x := .agg (rowP (t, s, r))) (by omega) rfl rfl rfl
  have k7 : Keeps2 G6 (G6.push (.cells (rowP (t, s, r)))) := .push _ _
  have k17 := (k15.trans k6).trans k7
  have n7 : (G6.push (.cells (rowP (t, s, r)))).next = G6.next + 1 := Heap.next_push _ _
  (repeat (with_reducible first | ((first | apply bindP_intro | apply bind2_intro); (focus (first | rfl | (simp only [walkS, reduceIte, hc, ho, tok_cells, encB_one, n1, n2, d4, d1, d3, ← hG, lt, g1, eo, hl1, g3, hst, hG4, hl4, lt4, g5, lt5, g6, hb, hsx] <;> rfl)))) | apply cond_t | apply cond_f))
  rw [show prinC C s t r = if 4 ≤ manyC C.fs s then (9, C) else (0, { C with fs := insT (t, s, r) C.fs }) by unfold prinC; rw [if_neg hno, if_pos hk, hw, if_neg (by simp)]]
  exact radd_loop (Hb := G6.push (.cells (rowP (t, s, r)))) (H0 := H) (x := (t, s, r)) (k17.cells cx) (k17.cells cr) (cells_push_new G6 _) rfl (by omega) hlfs h (kG.trans k17) (by omega) (by omega) hlim (fun v H' hO => hO) n 0 0 false (.sl none 0 (.ex 0)) (G6.next + 1) [] _ (by omega) (Nat.zero_le _) (Nat.le_refl _) (.refl _)
   ⟨⟨fun x hx => by simp at hx, .inl ⟨rfl, rfl⟩⟩, fun _ => rfl⟩ (by omega) (by rw [List.drop_zero, insP_eq]; rfl) (by rw [List.drop_zero, Nat.zero_add])
end
theorem fz_other {sz : Nat} {H H' : Heap} {v : AVal} {xs : List (List AVal)} {c : Nat} {z z' : List AVal} (h : Fz H sz v xs) (hf : Fram (fun b => b = c) H H') (hz : H.cells c = some z) (hz' : H'.cells c = some z') (hl : z'.length = z.length) (hno : slBlk v = some c → xs ≠ [] → False) : Fz H' sz v xs := by
 by_cases hc : slBlk v = some c
 ·have hxs : xs = [] := by
   cases xs with
   | nil => rfl
   | cons x xs => exact (hno hc (by simp)).elim
  subst hxs
  refine ⟨fun _ hx => by simp at hx, ?_⟩
  rcases h.at' with ⟨rfl, _⟩ | ⟨b, o, cp, cs, rfl, h2, h3, h4, h5⟩
  ·simp [slBlk] at hc
  ·simp only [slBlk, Option.some.injEq] at hc
   subst hc
   rw [hz] at h3
   obtain rfl := Option.some.inj h3
   exact .inr ⟨b, o, cp, z', rfl, h2, hz', by rw [hl]; exact h4, by simp⟩
 ·exact h.frame hf fun b hb e => hc (by rw [hb, e])
theorem R20.set2 {H : Heap} {v : AVal} {C : PCat} {c : Nat} {z z' : List AVal} (h : R20 H v C) (hz : H.cells c = some z) (hl : z.length = 2) (hl' : z'.length = 2) (hp : z'.all plainV = true) : R20 (H.set c (.cells z')) v C := by
 obtain ⟨vT, vP, e, hT, hP, hpl⟩ := h.ex
 have hf : Fram (fun b => b = c) H (H.set c (.cells z')) := Fram.set (S := fun b => b = c) rfl
 have hz2 : (H.set c (.cells z')).cells c = some z' := cells_set_same (Heap.cells_lt hz)
 have big : ∀ {sz : Nat} {v : AVal} {xs : List (List AVal)}, 3 ≤ sz → Fz H sz v xs → slBlk v = some c → xs ≠ [] → False := fun {sz v xs} hsz hv hc hne => by
  rcases hv.at' with ⟨rfl, _⟩ | ⟨b, o, cp, cs, rfl, h2, h3, h4, h5⟩
  ·simp [slBlk] at hc
  ·simp only [slBlk, Option.some.injEq] at hc
   subst hc
   rw [hz] at h3
   obtain rfl := Option.some.inj h3
   have : 1 ≤ xs.length := List.length_pos_iff.2 hne
   have := Nat.mul_le_mul this hsz
   omega
 refine ⟨vT, vP, e, fz_other hT hf hz hz2 (by rw [hl, hl']) (big (by omega) hT), fz_other hP hf hz hz2 (by rw [hl, hl']) (big (by omega) hP), fun b hb => ?_⟩
 by_cases hbc : b = c
 ·subst hbc
  exact ⟨z', hz2, hp⟩
 ·obtain ⟨cs, q1, q2⟩ := hpl b hb
  exact ⟨cs, cells_set_other q1 hbc, q2⟩
theorem flatten_head {sz : Nat} {cs : List AVal} {o : Nat} {x : List AVal} {xs : List (List AVal)} (hl : o + (x :: xs).length * sz ≤ cs.length) (h : (cs.drop o).take ((x :: xs).length * sz) = (x :: xs).flatten) (hx : x.length = sz) (hs : 0 < sz) : cs[o]? = x[0]? := by
 have h0 : ((cs.drop o).take ((x :: xs).length * sz))[0]? = ((x :: xs).flatten)[0]? := by rw [h]
 have hp : 0 < (x :: xs).length * sz := Nat.mul_pos (by simp) hs
 rw [List.getElem?_take, if_pos hp, List.getElem?_drop, List.flatten_cons, List.getElem?_append_left (by omega), Nat.add_zero] at h0
 exact h0
theorem cat_no {C : PCat} {m o : Nat} {v : AVal} (h : (catCells C m)[o]? = some v) : (∀ n, v ≠ .int .u8 n) ∧ ∀ s, v ≠ .str s := by
 have hm := List.mem_of_getElem? h
 unfold catCells at hm
 simp only [List.mem_cons, List.not_mem_nil, or_false] at hm
 rcases hm with rfl | rfl | rfl | rfl | rfl | rfl | rfl | rfl | rfl | rfl | rfl | rfl | rfl | rfl | rfl | rfl | rfl <;> exact ⟨fun n e => by simp at e, fun s e => by simp at e⟩
theorem R20.cat {H H' : Heap} {v : AVal} {C D D' : PCat} {b m : Nat} (h : R20 H v C) (hc : CatAt H b m D) (hc' : CatAt H' b m D') (hf : Fram (cft b m) H H') : R20 H' v C := by
 obtain ⟨vT, vP, e, hT, hP, hpl⟩ := h.ex
 have hmap : ∀ c cs, H.cells c = some cs → c ≠ m := fun c cs hcs e => by
  obtain ⟨vs, clk, g, _⟩ := hc.map.ex
  subst e
  rw [Heap.cells_eq, g] at hcs
  simp at hcs
 have go : ∀ {sz : Nat} {v : AVal} {xs : List (List AVal)}, 0 < sz → Fz H sz v xs → (∀ x ∈ xs, ∃ w, x[0]? = some w ∧ ((∃ n, w = .int .u8 n) ∨ ∃ s, w = .str s)) → Fz H' sz v xs := fun {sz v xs} hsz hv hx => by
  refine ⟨hv.each, ?_⟩
  rcases hv.at' with h1 | ⟨c, o, cp, cs, h1, h2, h3, h4, h5⟩
  ·exact .inl h1
  ·by_cases hb : c = b
   ·subst hb
    rw [hc.cells] at h3
    obtain rfl := Option.some.inj h3
    cases xs with
    | nil =>
     have h4' : o + 0 * sz ≤ 17 := h4
     exact .inr ⟨c, o, cp, _, h1, h2, hc'.cells, by show o + 0 * sz ≤ 17; exact h4', by simp⟩
    | cons x xs =>
     exfalso
     obtain ⟨w, q1, q2⟩ := hx x (by simp)
     have := flatten_head h4 h5 (hv.each x (by simp)).1 hsz
     rw [q1] at this
     have hn := cat_no this
     rcases q2 with ⟨n, rfl⟩ | ⟨s, rfl⟩
     ·exact hn.1 n rfl
     ·exact hn.2 s rfl
   ·refine .inr ⟨c, o, cp, cs, h1, h2, hf.cells h3 (fun e => ?_), h4, h5⟩
    rcases e with e | e
    ·exact hb e
    ·exact hmap c cs h3 e
 refine ⟨vT, vP, e, go (by decide) hT fun x hx => ?_, go (by decide) hP fun x hx => ?_, fun c hb => ?_⟩
 ·obtain ⟨y, _, rfl⟩ := List.mem_map.1 hx
  exact ⟨_, rfl, .inl ⟨_, rfl⟩⟩
 ·obtain ⟨y, _, rfl⟩ := List.mem_map.1 hx
  exact ⟨_, rfl, .inr ⟨_, rfl⟩⟩
 ·obtain ⟨cs, q1, q2⟩ := hpl c hb
  by_cases hcb : c = b
  ·subst hcb
   exact ⟨_, hc'.cells, rfl⟩
  ·exact ⟨cs, hf.cells q1 (fun e => by rcases e with e | e; exact hcb e; exact hmap c cs q1 e), q2⟩
section
variable {n lim N : Nat} {C : PCat}
end
theorem R20.out {H H' : Heap} {r : AVal} {o : Int × PCat} (h : Out20 H H' r o) : ∃ uT uP, r = .tup [.agg [uT, uP], .int .u8 o.1] ∧ R20 H' (.agg [uT, uP]) o.2 ∧ Keeps2 H H' ∧ (uT.one = true ∧ uP.one = true) ∧ [uT, uP].all plainV = true := by
 obtain ⟨⟨v', rfl, hR⟩, hk⟩ := h
 have hR' := hR
 obtain ⟨uT, uP, rfl, hT, hP, _⟩ := hR'.ex
 exact ⟨uT, uP, rfl, hR, hk, ⟨hT.one.1, hP.one.1⟩, by simp [fz_plain hT, fz_plain hP]⟩
section
variable {n lim N : Nat} {C : PCat}
theorem rw_ents {K : AVal → Heap → Prop} {Hb : Heap} {bx : Nat} {vT vP : AVal} {fin : List UInt8} (hok : OkC C) (hx : Hb.cells bx = some [vT, vP]) (hP : Fz Hb 3 vP (C.fs.map rowP)) (hfin : fin.length ≤ 1000) (hK : ∀ H', Keeps2 Hb H' → K (.str fin) H') :
  ∀ (f i : Nat) (s : List UInt8) (H : Heap), C.fs.length < f + i → i ≤ C.fs.length → s ++ (C.fs.drop i).flatMap wP = fin → Keeps2 Hb H → F18_l2 (Ahs.runT ap n) lim N K f (.ptr (some (bx, 0))) (.str s) (.int .i64 (i : Int)) H
 | 0, i, s, H, h', h'', _, _ => by exfalso; omega
 | f + 1, i, s, H, hj, hi, hq, kb => by
  show F18_s2 _ _ _ _ (F18_l2 _ _ _ _ f) _ _ _ _
  unfold F18_s2
  have hml := many_le hok
  have hsl := (hP.keep kb).sl
  have hld : aload H none (.ptr (some (bx, 1))) = some vP := by rw [aload_one (kb.cells hx)]; rfl
  have hal : alen false vP = some (.int .i64 (C.fs.length : Int)) := by have := hsl.len; rw [List.length_map] at this; exact this
  by_cases hil : i < C.fs.length
  ·have hd : decide ((i : Int) < (C.fs.length : Int)) = true := dT (by omega)
   obtain ⟨y, hy⟩ : ∃ y, y = C.fs[i] := ⟨_, rfl⟩
   have hx5 : C.fs[i]? = some y := by rw [hy]; exact List.getElem?_eq_getElem hil
   have hmem := List.mem_of_getElem? hx5
   obtain ⟨e1, e2, e3, e4, e5⟩ := hok.ent y hmem
   have hxr : (C.fs.map rowP)[i]? = some (rowP y) := by rw [List.getElem?_map, hx5]; rfl
   have hmlt : i < (C.fs.map rowP).length := by rw [List.length_map]; exact hil
   have had := hsl.addr (k := .i64) (i := i) hmlt
   have a0 : faddrO 0 (Ahs.slot vP (i * 3)) = some (Ahs.slot vP (i * 3)) := faddr_slot hsl (by omega) (i * 3) 0
   have a1 : faddrO 1 (Ahs.slot vP (i * 3)) = some (Ahs.slot vP (i * 3 + 1)) := faddr_slot hsl (by omega) (i * 3) 1
   have a2 : faddrO 2 (Ahs.slot vP (i * 3)) = some (Ahs.slot vP (i * 3 + 2)) := faddr_slot hsl (by omega) (i * 3) 2
   have l0 : aload H none (Ahs.slot vP (i * 3)) = some (.str y.1.1) := hsl.loadf hxr (f := 0) (by omega)
   have l1 : aload H none (Ahs.slot vP (i * 3 + 1)) = some (.int .u8 (y.2.1 : Int)) := hsl.loadf hxr (f := 1) (by omega)
   have l2 : aload H none (Ahs.slot vP (i * 3 + 2)) = some (.int .u8 (y.2.2 : Int)) := hsl.loadf hxr (f := 2) (by omega)
   have hdrop : C.fs.drop i = y :: C.fs.drop (i + 1) := by rw [hy]; exact List.drop_eq_getElem_cons hil
   rw [hdrop, List.flatMap_cons] at hq
   have hlen : s.length + (wP y).length ≤ 1000 := by
    have := congrArg List.length hq
    simp only [List.length_append] at this
    omega
   have hwl := wP_len y
   have hfv : fillV [(.int .u8 0), (.int .u8 0)] [(0, 1, .int .u8 (y.2.1 : Int)), (1, 1, .int .u8 (y.2.2 : Int))] = some [.int .u8 (y.2.1 : Int), .int .u8 (y.2.2 : Int)] := rfl
   have hen : [AVal.int .u8 (y.2.1 : Int), .int .u8 (y.2.2 : Int)] = encB [UInt8.ofNat y.2.1, UInt8.ofNat y.2.2] := by
    unfold encB
    simp [Nat.mod_eq_of_lt (show y.2.1 < 256 by omega), Nat.mod_eq_of_lt (show y.2.2 < 256 by omega)]
   have hb2 : abytesToStr (H.push (.cells [.int .u8 (y.2.1 : Int), .int .u8 (y.2.2 : Int)])) (.sl (some (H.next, 0)) 2 (.ex 2)) = some (.str [UInt8.ofNat y.2.1, UInt8.ofNat y.2.2]) := by
    rw [hen]
    exact str_blk (l := [UInt8.ofNat y.2.1, UInt8.ofNat y.2.2]) (cells_push_new H _) 2
   have s1 : abin .add (.str s) (.str y.1.1) = some (.str (s ++ y.1.1)) := sadd (by rw [y.1.2]; omega)
   have s2 : abin .add (.str (s ++ y.1.1)) (.str [UInt8.ofNat y.2.1, UInt8.ofNat y.2.2]) = some (.str (s ++ wP y)) := by
    rw [sadd (by rw [List.length_append, y.1.2]; simp; omega)]
    unfold wP
    rw [List.append_assoc]
   have hi1 : IntKind.i64.wrap ((i : Int) + 1) = ((i + 1 : Nat) : Int) := i64_succ (by omega)
   (repeat (with_reducible first | ((first | apply bindP_intro | apply bind2_intro); (focus (first | rfl | (simp only [walkS, reduceIte, hld, hal, hd, had, a0, l0, s1, a1, l1, a2, l2, hfv, hb2, s2, hi1] <;> rfl)))) | apply cond_t | apply cond_f))
   exact rw_ents hok hx hP hfin hK f (i + 1) (s ++ wP y) _ (by omega) (by omega) (by rw [List.append_assoc]; exact hq) (kb.trans (.push _ _))
  ·have hd : decide ((i : Int) < (C.fs.length : Int)) = false := dF (by omega)
   rw [List.drop_eq_nil_of_le (by omega), List.flatMap_nil, List.append_nil] at hq
   (repeat (with_reducible first | ((first | apply bindP_intro | apply bind2_intro); (focus (first | rfl | (simp only [walkS, reduceIte, hld, hal, hd] <;> rfl)))) | apply cond_t | apply cond_f))
   unfold F18_j0
   rw [hq]
   exact hK H kb
theorem rw_quos {K : AVal → Heap → Prop} {Hb : Heap} {bx : Nat} {vT vP : AVal} {fin : List UInt8} (hok : OkC C) (hx : Hb.cells bx = some [vT, vP]) (hR : R20 Hb (.agg [vT, vP]) C) (hlim : lim ≤ Hb.next) (hn : 1000013 ≤ n) (hN : 40 ≤ N) (hfin : fin.length ≤ 1000) (hK : ∀ H', Keeps2 Hb H' → K (.str fin) H') :
  ∀ (j i f : Nat) (s : List UInt8) (H : Heap), j + i = 4 → j < f → s ++ (wRest C j i ++ (vNum C.fs.length ++ C.fs.flatMap wP)) = fin → Keeps2 Hb H → F18_l0 (Ahs.runT ap n) lim N K f (.ptr (some (bx, 0))) (.str s) (.int .u8 (i : Int)) H
 | j, i, 0, s, H, _, h', _, _ => by omega
 | j, i, f + 1, s, H, hj, hjq, hq, kb => by
  show F18_s0 _ _ _ _ (F18_l0 _ _ _ _ f) _ _ _ _
  unfold F18_s0
  have hml := many_le hok
  have kbn := kb.next
  obtain ⟨n', hn'⟩ : ∃ n', n = n' + 1 := ⟨n - 1, by omega⟩
  cases j with
  | zero =>
   have hd : decide ((i : Int) < 4) = false := dF (by omega)
   obtain ⟨uT, uP, e, hT, hP, hpl⟩ := hR.ex
   simp only [AVal.agg.injEq, List.cons.injEq, and_true] at e
   obtain ⟨rfl, rfl⟩ := e
   have hld : aload H none (.ptr (some (bx, 1))) = some vP := by rw [aload_one (kb.cells hx)]; rfl
   have hal : alen false vP = some (.int .i64 (C.fs.length : Int)) := by have := hP.sl.len; rw [List.length_map] at this; exact this
   have hcv : IntKind.u64.wrap ((C.fs.length : Nat) : Int) = ((C.fs.length : Nat) : Int) := wrap_u64 (by omega) (by omega)
   obtain ⟨_, H2, r2, rfl, k2⟩ := one_c (H := H) (n := n') (lim := lim) (m := C.fs.length) (by omega) (by omega)
   rw [← hn'] at r2
   have hlen : s.length + (vNum C.fs.length).length ≤ 1000 := by
    have := congrArg List.length hq
    simp only [List.length_append] at this
    omega
   have s1 : abin .add (.str s) (.str (vNum C.fs.length)) = some (.str (s ++ vNum C.fs.length)) := sadd (by omega)
   (repeat (with_reducible first | ((first | apply bindP_intro | apply bind2_intro); (focus (first | rfl | (simp only [walkS, reduceIte, hd] <;> rfl)))) | apply cond_t | apply cond_f))
   unfold F18_j1
   (repeat (with_reducible first | ((first | apply bindP_intro | apply bind2_intro); (focus (first | rfl | (simp only [walkS, reduceIte, hld, hal, hcv, r2, s1] <;> rfl)))) | apply cond_t | apply cond_f))
   refine rw_ents hok hx hP hfin hK N 0 (s ++ vNum C.fs.length) H2 (by omega) (Nat.zero_le _) ?_ (kb.trans k2)
   rw [List.drop_zero, List.append_assoc]
   exact hq
  | succ j =>
   have hd : decide ((i : Int) < 4) = true := dT (by omega)
   have hl2 : aload H (some 2) (.ptr (some (bx, 0))) = some (.agg [vT, vP]) := aload_all (kb.cells hx) rfl
   obtain ⟨_, H1, r1, rfl, k1⟩ := find_c (n := n') (lim := lim) (s := i) (hR.keep kb) (by omega) (by omega) (by omega)
   rw [← hn'] at r1
   have k1n := k1.next
   have hqc : quotaC C i = if 0 < (C.q i).k then (C.q i, true) else (noQ, false) := by
    unfold quotaC
    by_cases hk : 0 < (C.q i).k
    ·rw [if_pos ⟨by omega, hk⟩, if_pos hk]
    ·rw [if_neg (fun e => hk e.2), if_neg hk]
   have hst : astore lim (H1.push (.cells z547173)) 4 (.ptr (some (H1.next, 0))) (.agg (encQ (quotaC C i).1)) = some (H1.push (.cells (encQ (quotaC C i).1))) := astore_new (cs := z547173) (x := .agg (encQ (quotaC C i).1)) (by omega) rfl rfl rfl
   have k2 : Keeps2 H1 (H1.push (.cells (encQ (quotaC C i).1))) := .push _ _
   have lq : ∀ o, aload (H1.push (.cells (encQ (quotaC C i).1))) none (.ptr (some (H1.next, o))) = (encQ (quotaC C i).1)[o]? := fun o => aload_new1 _ _ _
   have n2 : (H1.push (.cells (encQ (quotaC C i).1))).next = H1.next + 1 := Heap.next_push _ _
   generalize hG : H1.push (.cells (encQ (quotaC C i).1)) = G at *
   have hf := hok.fit i (by omega)
   have hle := hf.le
   have hi1 : IntKind.u8.wrap ((i : Int) + 1) = ((i + 1 : Nat) : Int) := by
    rw [show ((i : Int) + 1) = ((i + 1 : Nat) : Int) by omega]; exact wrapN_u8 (by omega)
   have hwr : wRest C (j + 1) i = wQ (C.q i) ++ wRest C j (i + 1) := rfl
   rw [hwr, List.append_assoc] at hq
   have hlen : s.length + (wQ (C.q i)).length ≤ 1000 := by
    have := congrArg List.length hq
    simp only [List.length_append] at this
    omega
   by_cases hk : 0 < (C.q i).k
   ·rw [if_pos hk] at hqc
    have hr := hf.right hk
    have hu : 0 ≤ (C.q i).u ∧ (C.q i).u ≤ 100 := by
     unfold rightQ at hr
     simp only [Bool.and_eq_true, decide_eq_true_eq] at hr
     omega
    rw [hqc] at r1 hst lq
    simp only at r1 hst lq
    have hwq : wQ (C.q i) = 1 :: (vNum (C.q i).k.toNat ++ (vNum (C.q i).b.toNat ++ (vNum (C.q i).r.toNat ++ vNum (C.q i).u.toNat))) := by unfold wQ; rw [if_pos hk]
    have c1 : IntKind.u64.wrap (C.q i).k = (C.q i).k := wrap_u64 (by omega) (by omega)
    have c2 : IntKind.u64.wrap (C.q i).b = (C.q i).b := wrap_u64 (by omega) (by omega)
    have c3 : IntKind.u64.wrap (C.q i).r = (C.q i).r := wrap_u64 (by omega) (by omega)
    have c4 : IntKind.u64.wrap (C.q i).u = (C.q i).u := wrap_u64 (by omega) (by omega)
    have l0 := lq 0
    have l1 := lq 1
    have l2 := lq 2
    have l3 := lq 3
    simp only [encQ, List.getElem?_cons_zero, List.getElem?_cons_succ] at l0 l1 l2 l3
    have hfv : fillV z70c9c7 [(0, 1, .int .u64 (C.q i).k), (1, 1, .int .u64 (C.q i).b), (2, 1, .int .u64 (C.q i).r), (3, 1, .int .u64 (C.q i).u)] = some [.int .u64 (C.q i).k, .int .u64 (C.q i).b, .int .u64 (C.q i).r, .int .u64 (C.q i).u] := rfl
    have hsl : Sl (G.push (.cells [.int .u64 (C.q i).k, .int .u64 (C.q i).b, .int .u64 (C.q i).r, .int .u64 (C.q i).u])) 1 (.sl (some (G.next, 0)) 4 (.ex 4)) (encN [(C.q i).k.toNat, (C.q i).b.toNat, (C.q i).r.toNat, (C.q i).u.toNat]) := by
     refine ⟨.inr ⟨G.next, 0, .ex 4, [.int .u64 (C.q i).k, .int .u64 (C.q i).b, .int .u64 (C.q i).r, .int .u64 (C.q i).u], rfl, Nat.le_refl _, cells_push_new G _, Nat.le_refl 4, ?_⟩, fun x hx => ?_⟩
     ·unfold encN
      simp only [List.map_cons, List.map_nil, List.flatten_cons, List.flatten_nil, List.cons_append, List.nil_append, List.length_cons, List.length_nil]
      rw [Int.toNat_of_nonneg (by omega), Int.toNat_of_nonneg (by omega), Int.toNat_of_nonneg (by omega), Int.toNat_of_nonneg (by omega)]
      rfl
     ·unfold encN at hx
      simp at hx
      rcases hx with rfl | rfl | rfl | rfl <;> rfl
    have k3 : Keeps2 G (G.push (.cells [.int .u64 (C.q i).k, .int .u64 (C.q i).b, .int .u64 (C.q i).r, .int .u64 (C.q i).u])) := .push _ _
    obtain ⟨_, H3, r3, rfl, k4⟩ := refv_c (n := n') (lim := lim) (l := [(C.q i).k.toNat, (C.q i).b.toNat, (C.q i).r.toNat, (C.q i).u.toNat]) (by omega) (fun m hm => by simp at hm; omega) (by simp) hsl
    have hvn : vNums [(C.q i).k.toNat, (C.q i).b.toNat, (C.q i).r.toNat, (C.q i).u.toNat] = vNum (C.q i).k.toNat ++ (vNum (C.q i).b.toNat ++ (vNum (C.q i).r.toNat ++ vNum (C.q i).u.toNat)) := by unfold vNums; simp
    rw [hvn] at r3
    rw [← hn'] at r3
    have hl41 := wQ_len hf
    rw [hwq] at hl41 hlen hq
    simp only [List.length_cons] at hl41 hlen
    have s1 : abin .add (.str s) (.str [1]) = some (.str (s ++ [1])) := sadd (by simp only [List.length_cons, List.length_nil]; omega)
    have s2 : abin .add (.str (s ++ [1])) (.str (vNum (C.q i).k.toNat ++ (vNum (C.q i).b.toNat ++ (vNum (C.q i).r.toNat ++ vNum (C.q i).u.toNat)))) = some (.str (s ++ 1 :: (vNum (C.q i).k.toNat ++ (vNum (C.q i).b.toNat ++ (vNum (C.q i).r.toNat ++ vNum (C.q i).u.toNat))))) := by
     rw [sadd (by simp only [List.length_append, List.length_cons, List.length_nil] at hlen ⊢; omega)]
     simp
    (repeat (with_reducible first | ((first | apply bindP_intro | apply bind2_intro); (focus (first | rfl | (simp only [walkS, reduceIte, hd, hl2, r1, hst, s1, l0, l1, l2, l3, c1, c2, c3, c4, hfv, r3, s2] <;> rfl)))) | apply cond_t | apply cond_f))
    unfold F18_j2
    (repeat (with_reducible first | ((first | apply bindP_intro | apply bind2_intro); (focus (first | rfl | (simp only [walkS, reduceIte, hi1] <;> rfl)))) | apply cond_t | apply cond_f))
    exact rw_quos hok hx hR hlim hn hN hfin hK j (i + 1) f _ H3 (by omega) (by omega) (by rw [List.append_assoc]; exact hq) (kb.trans (k1.trans (k2.trans (k3.trans k4))))
   ·rw [if_neg hk] at hqc
    rw [hqc] at r1 hst
    simp only at r1 hst
    have hwq : wQ (C.q i) = [0] := by unfold wQ; rw [if_neg hk]
    rw [hwq] at hq hlen
    have s1 : abin .add (.str s) (.str [0]) = some (.str (s ++ [0])) := sadd (by simp only [List.length_cons, List.length_nil] at hlen ⊢; omega)
    (repeat (with_reducible first | ((first | apply bindP_intro | apply bind2_intro); (focus (first | rfl | (simp only [walkS, reduceIte, hd, hl2, r1, hst, s1] <;> rfl)))) | apply cond_t | apply cond_f))
    unfold F18_j2
    (repeat (with_reducible first | ((first | apply bindP_intro | apply bind2_intro); (focus (first | rfl | (simp only [walkS, reduceIte, hi1] <;> rfl)))) | apply cond_t | apply cond_f))
    exact rw_quos hok hx hR hlim hn hN hfin hK j (i + 1) f _ G (by omega) (by omega) (by rw [List.append_assoc]; exact hq) (kb.trans (k1.trans k2))
theorem rwrite_c {H : Heap} {v : AVal} (h : R20 H v C) (hok : OkC C) (hlim : lim ≤ H.next) (hn : 1000013 ≤ n) : ∃ r H', Ahs.runT ap (n + 1) lim (.fn 18) [v] H = some (r, H') ∧ r = .str (writeC C) ∧ Keeps2 H H' := by
 obtain ⟨vT, vP, rfl, hT, hP, hpl⟩ := h.ex
 refine F18_run a18 ?_
 unfold F18
 have hc : (AVal.agg [vT, vP]).cells = [vT, vP] := rfl
 have ho : ([vT, vP].all fun v => v.one) = true := by simp [hT.one.1, hP.one.1]
 have k1 : Keeps2 H (H.push (.cells [vT, vP])) := .push _ _
 have n1 : (H.push (.cells [vT, vP])).next = H.next + 1 := Heap.next_push _ _
 (repeat (with_reducible first | ((first | apply bindP_intro | apply bind2_intro); (focus (first | rfl | (simp only [walkS, reduceIte, hc, ho] <;> rfl)))) | apply cond_t | apply cond_f))
 exact rw_quos hok (cells_push_new H _) (h.keep k1) (by omega) hn (by omega) (Nat.le_trans (write_len hok).2 (by omega)) (fun H' k => ⟨rfl, k1.trans k⟩) 4 0 n [] _ rfl (by omega) (by
  unfold writeC
  simp only [wRest, PCat.q, List.nil_append, List.append_assoc, List.append_nil]) (.refl _)
end
def rfin (C : PCat) (r : List UInt8) : Option PCat := match rV r with
 | none => none
 | some (n, j) => if 16 < n ∨ (r.drop j).length ≠ 10 * n then none else rprins n C (r.drop j)
def rall (o : Option (PCat × List UInt8)) : Option PCat := match o with
 | none => none
 | some (C, r) => rfin C r
theorem rRead_eq (s : List UInt8) : rRead s = rall (rslots 4 0 newC s) := by
 unfold rRead rall rfin
 rfl
def ROut (H' : Heap) (v : AVal) : Option PCat → Prop
 | none => v = .tup [.agg zf3f7a3, .bool false]
 | some C => ∃ u, v = .tup [u, .bool true] ∧ R20 H' u C ∧ OkC C
structure St16 (H0 H : Heap) (br bc : Nat) (C : PCat) (cT cP : AVal) : Prop where
 keep : Keeps2 H0 H
 res : H.cells br = some zf3f7a3
 cat : H.cells bc = some [cT, cP]
 ref : R20 H (.agg [cT, cP]) C
 ok : OkC C
 ne : br ≠ bc
 low : H0.next ≤ br ∧ H0.next ≤ bc
section
variable {n lim N : Nat} {K : AVal → Heap → Prop} {H0 H : Heap} {br bc : Nat} {C : PCat} {cT cP : AVal}
theorem St16.keepS {H' : Heap} (h : St16 H0 H br bc C cT cP) (hk : Keeps2 H H') : St16 H0 H' br bc C cT cP :=
 ⟨h.keep.trans hk, hk.cells h.res, hk.cells h.cat, h.ref.keep hk, h.ok, h.ne, h.low⟩
theorem St16.ones (h : St16 H0 H br bc C cT cP) : (cT.one = true ∧ cP.one = true) ∧ [cT, cP].all plainV = true := by
 obtain ⟨uT, uP, e, hT, hP, _⟩ := h.ref.ex
 simp only [AVal.agg.injEq, List.cons.injEq, and_true] at e
 obtain ⟨rfl, rfl⟩ := e
 exact ⟨⟨hT.one.1, hP.one.1⟩, by simp [fz_plain hT, fz_plain hP]⟩
theorem St16.fail (h : St16 H0 H br bc C cT cP) (hlim : lim ≤ H0.next) : astore lim H 2 (.ptr (some (br, 0))) (.agg zf3f7a3) = some (H.set br (.cells zf3f7a3)) ∧ aload (H.set br (.cells zf3f7a3)) (some 2) (.ptr (some (br, 0))) = some (.agg zf3f7a3) ∧ Keeps2 H0 (H.set br (.cells zf3f7a3)) :=
 ⟨astore_at (n := 2) (o := 0) (x := .agg zf3f7a3) h.res (by have := h.low; omega) rfl (by show 0 + 2 ≤ 2; omega) rfl, aload_all (cells_set_same (Heap.cells_lt h.res)) rfl, h.keep.setNew h.low.1 _⟩
theorem St16.load (h : St16 H0 H br bc C cT cP) : aload H (some 2) (.ptr (some (bc, 0))) = some (.agg [cT, cP]) := aload_all h.cat rfl
theorem St16.put {D : PCat} {dT dP : AVal} (h : St16 H0 H br bc C cT cP) (hR : R20 H (.agg [dT, dP]) D) (hD : OkC D) (hlim : lim ≤ H0.next) : astore lim H 2 (.ptr (some (bc, 0))) (.agg [dT, dP]) = some (H.set bc (.cells [dT, dP])) ∧ St16 H0 (H.set bc (.cells [dT, dP])) br bc D dT dP := by
 obtain ⟨uT, uP, e, hT, hP, _⟩ := hR.ex
 simp only [AVal.agg.injEq, List.cons.injEq, and_true] at e
 obtain ⟨rfl, rfl⟩ := e
 refine ⟨astore_at (n := 2) (o := 0) (x := .agg [dT, dP]) h.cat (by have := h.low; omega) rfl (by show 0 + 2 ≤ 2; omega) (by show ([dT, dP].all fun v => v.one) = true; simp [hT.one.1, hP.one.1]), ?_⟩
 exact ⟨h.keep.setNew h.low.2 _, cells_set_other h.res h.ne, cells_set_same (Heap.cells_lt h.cat), hR.set2 h.cat rfl rfl (by simp [fz_plain hT, fz_plain hP]), hD, h.ne, h.low⟩
theorem sub_i64 {x y : Nat} (h : y ≤ x) (hx : x < 9223372036854775808) : IntKind.i64.wrap ((x : Int) - (y : Int)) = ((x - y : Nat) : Int) := by
 rw [show (x : Int) - (y : Int) = ((x - y : Nat) : Int) by omega]
 exact wrap_i64 (by omega) (by omega)
theorem add_i64 {x y : Nat} (h : x + y < 9223372036854775808) : IntKind.i64.wrap ((x : Int) + (y : Int)) = ((x + y : Nat) : Int) := by
 rw [show (x : Int) + (y : Int) = ((x + y : Nat) : Int) by omega]
 exact wrap_i64 (by omega) (by omega)
theorem tok_loop {s : List UInt8} {at' bt k : Nat} {t2 t4 t15 : AVal} {rec4 : AVal → AVal → AVal → AVal → AVal → AVal → Heap → Prop} (hs : at' + 10 ≤ s.length) (hsl : s.length ≤ 1000) (hlb : lim ≤ bt) {Hb : Heap}
  (hK : ∀ H, Fram (fun c => c = bt) Hb H → H.next = Hb.next → H.cells bt = some (encB ((s.drop at').take 8)) → F16_j1 (Ahs.runT ap n) lim N K rec4 (.str s) t2 t4 (.int .i64 (at' : Int)) t15 (.int .i64 (k : Int)) (.ptr (some (bt, 0))) H) :
  ∀ (f i : Nat) (H : Heap), 8 < f + i → i ≤ 8 → Fram (fun c => c = bt) Hb H → H.next = Hb.next → H.cells bt = some (encB ((s.drop at').take i ++ List.replicate (8 - i) 0)) →
   F16_l6 (Ahs.runT ap n) lim N K rec4 f (.str s) t2 t4 (.int .i64 (at' : Int)) t15 (.int .i64 (k : Int)) (.ptr (some (bt, 0))) (.int .i64 (i : Int)) H
 | 0, i, H, h1, h2, _, _, _ => by exfalso; omega
 | f + 1, i, H, hf, hi, fr, hn, hc => by
  show F16_s6 _ _ _ _ _ (F16_l6 _ _ _ _ _ f) _ _ _ _ _ _ _ _ _
  unfold F16_s6
  by_cases h8 : i < 8
  ·have hd : decide ((i : Int) < 8) = true := dT (by omega)
   have ha : IntKind.i64.wrap ((at' : Int) + (i : Int)) = ((at' + i : Nat) : Int) := add_i64 (by omega)
   have hx : aindexStr (.str s) (.int .i64 ((at' + i : Nat) : Int)) = some (.int .u8 (byteP s (at' + i) : Nat)) := str_at (by omega) .i64
   have hj : natOf (.int .i64 (i : Int)) = some i := natOf_nat _ i
   have had : aindexAddr (some 8) 1 (.ptr (some (bt, 0))) (.int .i64 (i : Int)) = some (.ptr (some (bt, i))) := by
    unfold aindexAddr
    simp only [hj]
    rw [if_pos h8]; simp
   have hi1 : IntKind.i64.wrap ((i : Int) + 1) = ((i + 1 : Nat) : Int) := i64_succ (by omega)
   have hset : (encB ((s.drop at').take i ++ List.replicate (8 - i) 0)).set i (.int .u8 (byteP s (at' + i) : Nat)) = encB ((s.drop at').take (i + 1) ++ List.replicate (8 - (i + 1)) 0) := by
    have hlt : ((s.drop at').take i).length = i := by rw [List.length_take, List.length_drop]; omega
    have hr : List.replicate (8 - i) (0 : UInt8) = 0 :: List.replicate (8 - (i + 1)) 0 := by
     rw [show 8 - i = (8 - (i + 1)) + 1 by omega]; rfl
    have hb : byteP s (at' + i) = ((s.drop at')[i]'(by rw [List.length_drop]; omega)).toNat := by
     unfold byteP
     rw [List.getD_eq_getElem?_getD, List.getElem?_eq_getElem (by omega), Option.getD_some, List.getElem_drop]
    rw [hr, encB_app]
    have h1 : (encB ((s.drop at').take i)).length = i := by rw [encB_len, hlt]
    rw [List.set_append_right _ _ (by omega), h1, Nat.sub_self]
    rw [List.take_succ_eq_append_getElem (by rw [List.length_drop]; omega), List.append_assoc, encB_app, hb]
    rfl
   have hst : astore lim H 1 (.ptr (some (bt, i))) (.int .u8 (byteP s (at' + i) : Nat)) = some (H.set bt (.cells (encB ((s.drop at').take (i + 1) ++ List.replicate (8 - (i + 1)) 0)))) := astore_cell hc hlb rfl rfl (by rw [encB_len, List.length_append, List.length_take, List.length_drop, List.length_replicate]; omega) hset
   (repeat (with_reducible first | ((first | apply bindP_intro | apply bind2_intro); (focus (first | rfl | (simp only [walkS, reduceIte, hd, ha, hx, had, hst, hi1] <;> rfl)))) | apply cond_t | apply cond_f))
   exact tok_loop hs hsl hlb hK f (i + 1) _ (by omega) (by omega) (fr.trans (Fram.set (S := fun c => c = bt) rfl) fun _ _ e => e) (by rw [Heap.next_set]; exact hn) (cells_set_same (Heap.cells_lt hc))
  ·have hd : decide ((i : Int) < 8) = false := dF (by omega)
   (repeat (with_reducible first | ((first | apply bindP_intro | apply bind2_intro); (focus (first | rfl | (simp only [walkS, reduceIte, hd] <;> rfl)))) | apply cond_t | apply cond_f))
   have : i = 8 := by omega
   subst this
   rw [show 8 - 8 = 0 from rfl, List.replicate_zero, List.append_nil] at hc
   exact hK H fr hn hc
theorem rr_prins {s : List UInt8} {tot : Nat} {res : Option PCat} (hn : 2030 ≤ n) (hN : 100 ≤ N) (hlim : lim ≤ H0.next) (hsl : s.length ≤ 1000) (htot : tot ≤ 16) (hK : ∀ v H', Keeps2 H0 H' → ROut H' v res → K v H') :
  ∀ (f i at' : Nat) (C : PCat) (cT cP : AVal) (H : Heap), tot < f + i → i ≤ tot → St16 H0 H br bc C cT cP → C.fs.length = i → s.length = at' + 10 * (tot - i) → rprins (tot - i) C (s.drop at') = res →
   F16_l4 (Ahs.runT ap n) lim N K f (.str s) (.ptr (some (br, 0))) (.ptr (some (bc, 0))) (.int .i64 (at' : Int)) (.int .u64 (tot : Int)) (.int .i64 (i : Int)) H
 | 0, i, at', C, cT, cP, H, h1, h2, _, _, _, _ => by exfalso; omega
 | f + 1, i, at', C, cT, cP, H, hf, hi, h, hfl, hat, hres => by
  show F16_s4 _ _ _ _ (F16_l4 _ _ _ _ f) _ _ _ _ _ _ _
  unfold F16_s4
  have hcv : IntKind.i64.wrap (tot : Int) = (tot : Int) := wrap_i64 (by omega) (by omega)
  by_cases hit : i < tot
  ·have hd : decide ((i : Int) < (tot : Int)) = true := dT (by omega)
   have hkn := h.keep.next
   have k1 : Keeps2 H (H.push (.cells zdff0c5)) := .push _ _
   have n1 : (H.push (.cells zdff0c5)).next = H.next + 1 := Heap.next_push _ _
   have h1 := h.keepS k1
   have c1 : (H.push (.cells zdff0c5)).cells H.next = some zdff0c5 := cells_push_new _ _
   have hat10 : at' + 10 ≤ s.length := by omega
   obtain ⟨m, hm⟩ : ∃ m, tot - i = m + 1 := ⟨tot - i - 1, by omega⟩
   have hlr : 10 ≤ (s.drop at').length := by rw [List.length_drop]; omega
   rw [hm] at hres
   unfold rprins at hres
   rw [dif_pos hlr] at hres
   (repeat (with_reducible first | ((first | apply bindP_intro | apply bind2_intro); (focus (first | rfl | (simp only [walkS, reduceIte, hcv, hd] <;> rfl)))) | apply cond_t | apply cond_f))
   refine tok_loop (Hb := H.push (.cells zdff0c5)) hat10 hsl (by omega) ?_ N 0 _ (by omega) (Nat.zero_le _) (.refl _ _) rfl c1
   intro G fr hGn hGc
   unfold F16_j1
   obtain ⟨t, ht⟩ : ∃ t, t = tokP (s.drop at') hlr := ⟨_, rfl⟩
   have ht1 : t.1 = (s.drop at').take 8 := by rw [ht]; rfl
   rw [← ht1] at hGc
   rw [← ht] at hres
   have kG : Keeps2 H G := Fram.keeps k1 fr fun c hc e => by omega
   have hG := h.keepS kG
   have hGn' : G.next = H.next + 1 := by omega
   obtain ⟨uT, uP, e, hT, hP, hpl⟩ := hG.ref.ex
   simp only [AVal.agg.injEq, List.cons.injEq, and_true] at e
   obtain ⟨rfl, rfl⟩ := e
   have lt : aload G (some 8) (.ptr (some (H.next, 0))) = some (.agg (encB t.1)) := aload_all hGc (by rw [encB_len, t.2])
   obtain ⟨n', hn'⟩ : ∃ n', n = n' + 1 := ⟨n - 1, by omega⟩
   have next : ∀ G', Keeps2 G G' → lastOK C.fs t = true → (bindP (aload G' (some 2) (.ptr (some (bc, 0)))) fun v514 =>
     bindP (abin .add (.int .i64 (at' : Int)) (.int .i64 8)) fun v515 =>
     bindP (aindexStr (.str s) v515) fun v516 =>
     bindP (aload G' (some 8) (.ptr (some (H.next, 0)))) fun v517 =>
     bindP (abin .add (.int .i64 (at' : Int)) (.int .i64 9)) fun v518 =>
     bindP (aindexStr (.str s) v518) fun v519 =>
     bind2 (Ahs.runT ap n lim (.fn 63) [v514, v516, v517, v519] G') fun v520 H521 =>
     bindP (extO 0 v520) fun v522 =>
     bindP (extO 1 v520) fun v523 =>
     bindP (astore lim (H521.push (.cells zf3f7a3)) 2 (.ptr (some (H521.next, 0))) v522) fun H524 =>
     bindP (abin .neq v523 (.int .u8 0)) fun v525 =>
     bindP (boolOf v525) fun b526 =>
     (b526 = true → (bindP (buildO zf3f7a3 []) fun v527 =>
     bindP (astore lim H524 2 (.ptr (some (br, 0))) v527) fun H528 =>
     bindP (aload H528 (some 2) (.ptr (some (br, 0)))) fun v529 =>
     K (.tup [v529, (.bool false)]) H528)) ∧
     (b526 = false → (bindP (aload H524 (some 2) (.ptr (some (H521.next, 0)))) fun v530 =>
     bindP (astore lim H524 2 (.ptr (some (bc, 0))) v530) fun H531 =>
     bindP (abin .add (.int .i64 (at' : Int)) (.int .i64 10)) fun v532 =>
     bindP (abin .add (.int .i64 (i : Int)) (.int .i64 1)) fun v533 =>
     F16_l4 (Ahs.runT ap n) lim N K f (.str s) (.ptr (some (br, 0))) (.ptr (some (bc, 0))) v532 (.int .u64 (tot : Int)) v533 H531))) := fun G' kG' hlast => by
    rw [if_pos hlast] at hres
    have hG' := hG.keepS kG'
    have hG'n := hG'.keep.next
    have l2 := hG'.load
    have lt' := aload_keep kG' lt
    have a8 : IntKind.i64.wrap ((at' : Int) + 8) = ((at' + 8 : Nat) : Int) := add_i64 (x := at') (y := 8) (by omega)
    have a9 : IntKind.i64.wrap ((at' : Int) + 9) = ((at' + 9 : Nat) : Int) := add_i64 (x := at') (y := 9) (by omega)
    have a10 : IntKind.i64.wrap ((at' : Int) + 10) = ((at' + 10 : Nat) : Int) := add_i64 (x := at') (y := 10) (by omega)
    have x8 : aindexStr (.str s) (.int .i64 ((at' + 8 : Nat) : Int)) = some (.int .u8 (byteP s (at' + 8) : Nat)) := str_at (by omega) .i64
    have x9 : aindexStr (.str s) (.int .i64 ((at' + 9 : Nat) : Int)) = some (.int .u8 (byteP s (at' + 9) : Nat)) := str_at (by omega) .i64
    have hi1 : IntKind.i64.wrap ((i : Int) + 1) = ((i + 1 : Nat) : Int) := i64_succ (by omega)
    have b8 : byteP (s.drop at') 8 = byteP s (at' + 8) := by unfold byteP; rw [List.getD_eq_getElem?_getD, List.getD_eq_getElem?_getD, List.getElem?_drop]
    have b9 : byteP (s.drop at') 9 = byteP s (at' + 9) := by unfold byteP; rw [List.getD_eq_getElem?_getD, List.getD_eq_getElem?_getD, List.getElem?_drop]
    rw [b8, b9] at hres
    obtain ⟨r, G2, r2, hO⟩ := radd_c (n := n') (lim := lim) (s := byteP s (at' + 8)) (r := byteP s (at' + 9)) hG'.ref (by omega) (by omega) (byteP_lt _ _) (byteP_lt _ _) (by omega) t
    rw [← hn'] at r2
    obtain ⟨dT, dP, rfl, R2, k2, o2, p2⟩ := R20.out hO
    have k2n := k2.next
    have k3 : Keeps2 G2 (G2.push (.cells [dT, dP])) := .push _ _
    have hst : astore lim (G2.push (.cells zf3f7a3)) 2 (.ptr (some (G2.next, 0))) (.agg [dT, dP]) = some (G2.push (.cells [dT, dP])) := astore_new (cs := zf3f7a3) (x := .agg [dT, dP]) (by omega) rfl rfl (by show ([dT, dP].all fun v => v.one) = true; simp [o2.1, o2.2])
    have h3 := (hG'.keepS k2).keepS k3
    have hok2 := (prinC_ok hG'.ok (s := byteP s (at' + 8)) (t := t) (r := byteP s (at' + 9))).1
    by_cases hz : (prinC C (byteP s (at' + 8)) t (byteP s (at' + 9))).1 = 0
    ·have ez : ((prinC C (byteP s (at' + 8)) t (byteP s (at' + 9))).1 != 0) = false := by rw [hz]; rfl
     rw [if_pos hz] at hres
     have ld : aload (G2.push (.cells [dT, dP])) (some 2) (.ptr (some (G2.next, 0))) = some (.agg [dT, dP]) := aload_newA G2 rfl
     obtain ⟨s1, h4⟩ := h3.put (R2.keep k3) hok2 hlim
     have hlen : (prinC C (byteP s (at' + 8)) t (byteP s (at' + 9))).2.fs.length = i + 1 := by
      rw [prinC_zero hz]
      show (insT _ C.fs).length = _
      rw [insT_len, hfl]
     (repeat (with_reducible first | ((first | apply bindP_intro | apply bind2_intro); (focus (first | rfl | (simp only [walkS, reduceIte, l2, a8, x8, lt', a9, x9, r2, hst, ez, ld, s1, a10, hi1] <;> rfl)))) | apply cond_t | apply cond_f))
     refine rr_prins hn hN hlim hsl htot hK f (i + 1) (at' + 10) _ dT dP _ (by omega) (by omega) h4 hlen (by omega) ?_
     rw [show tot - (i + 1) = m by omega, ← List.drop_drop]
     exact hres
    ·have ez : ((prinC C (byteP s (at' + 8)) t (byteP s (at' + 9))).1 != 0) = true := by simpa using hz
     rw [if_neg hz] at hres
     have hb : buildO zf3f7a3 [] = some (.agg zf3f7a3) := rfl
     obtain ⟨s1, s2, s3⟩ := h3.fail (lim := lim) hlim
     (repeat (with_reducible first | ((first | apply bindP_intro | apply bind2_intro); (focus (first | rfl | (simp only [walkS, reduceIte, l2, a8, x8, lt', a9, x9, r2, hst, ez, hb, s1, s2] <;> rfl)))) | apply cond_t | apply cond_f))
     refine hK _ _ s3 ?_
     rw [← hres]
     exact rfl
   by_cases hi0 : 0 < i
   ·have d0 : decide ((0 : Int) < (i : Int)) = true := dT (by omega)
    obtain ⟨y, hy⟩ : ∃ y, y = C.fs[i - 1]'(by omega) := ⟨_, rfl⟩
    have hx5 : C.fs[i - 1]? = some y := by rw [hy]; exact List.getElem?_eq_getElem _
    have hlast : C.fs.getLast? = some y := by rw [List.getLast?_eq_getElem?, hfl]; exact hx5
    have hxr : (C.fs.map rowP)[i - 1]? = some (rowP y) := by rw [List.getElem?_map, hx5]; rfl
    have hml : i - 1 < (C.fs.map rowP).length := by rw [List.length_map]; omega
    have hsP := hP.sl
    have hsub : IntKind.i64.wrap ((i : Int) - 1) = ((i - 1 : Nat) : Int) := sub_i64 (x := i) (y := 1) (by omega) (by omega)
    have had := hsP.addr (k := .i64) (i := i - 1) hml
    have a0 : faddrO 0 (Ahs.slot cP ((i - 1) * 3)) = some (Ahs.slot cP ((i - 1) * 3)) := faddr_slot hsP (by omega) ((i - 1) * 3) 0
    have l0 : aload G none (Ahs.slot cP ((i - 1) * 3)) = some (.str y.1.1) := hsP.loadf hxr (f := 0) (by omega)
    have lP : aload G none (.ptr (some (bc, 1))) = some cP := by rw [aload_one hG.cat]; rfl
    obtain ⟨_, G1, r1, rfl, k1'⟩ := text_c (H := G) (n := n') (lim := lim) t (by omega)
    rw [← hn'] at r1
    have hkept : ∀ g, keptG g G G1 [.ptr (some (bc, 1)), Ahs.slot cP ((i - 1) * 3)] := fun g => keptG_of k1' fun w hw b hb' => by
     simp only [List.mem_cons, List.not_mem_nil, or_false] at hw
     rcases hw with rfl | rfl
     ·simp only [blkOf, Option.some.injEq] at hb'
      subst hb'
      exact ⟨_, hG.cat, hG.ones.2⟩
     ·exact hpl b (blk_slot hb')
    have hge := geS y.1.1 t.1
    by_cases hlt : y.1.1 < t.1
    ·have hlo : lastOK C.fs t = true := by unfold lastOK; rw [hlast]; exact decide_eq_true hlt
     rw [decide_eq_true hlt] at hge
     (repeat (with_reducible first | ((first | apply bindP_intro | apply bind2_intro); (focus (first | rfl | (simp only [walkS, reduceIte, d0, lP, hsub, had, a0, l0, lt, r1] <;> rfl)))) | apply cond_t | apply cond_f))
     refine ⟨hkept _, ?_⟩
     (repeat (with_reducible first | ((first | apply bindP_intro | apply bind2_intro); (focus (first | rfl | (simp only [walkS, reduceIte, hge] <;> rfl)))) | apply cond_t | apply cond_f))
     exact next G1 k1' hlo
    ·have hlo : lastOK C.fs t = false := by unfold lastOK; rw [hlast]; exact decide_eq_false hlt
     rw [decide_eq_false hlt] at hge
     rw [hlo, if_neg (by simp)] at hres
     have hb : buildO zf3f7a3 [] = some (.agg zf3f7a3) := rfl
     obtain ⟨s1, s2, s3⟩ := (hG.keepS k1').fail (lim := lim) hlim
     (repeat (with_reducible first | ((first | apply bindP_intro | apply bind2_intro); (focus (first | rfl | (simp only [walkS, reduceIte, d0, lP, hsub, had, a0, l0, lt, r1] <;> rfl)))) | apply cond_t | apply cond_f))
     refine ⟨hkept _, ?_⟩
     (repeat (with_reducible first | ((first | apply bindP_intro | apply bind2_intro); (focus (first | rfl | (simp only [walkS, reduceIte, hge, hb, s1, s2] <;> rfl)))) | apply cond_t | apply cond_f))
     refine hK _ _ s3 ?_
     rw [← hres]
     exact rfl
   ·have d0 : decide ((0 : Int) < (i : Int)) = false := dF (by omega)
    have hnil : C.fs = [] := List.eq_nil_of_length_eq_zero (by omega)
    have hlo : lastOK C.fs t = true := by rw [hnil]; rfl
    (repeat (with_reducible first | ((first | apply bindP_intro | apply bind2_intro); (focus (first | rfl | (simp only [walkS, reduceIte, d0] <;> rfl)))) | apply cond_t | apply cond_f))
    refine ⟨fun e => by simp [wantV] at e, ?_⟩
    (repeat (with_reducible first | ((first | apply bindP_intro | apply bind2_intro); (focus (first | rfl | (simp only [walkS, reduceIte] <;> rfl)))) | apply cond_t | apply cond_f))
    exact next G (.refl _) hlo
  ·have hd : decide ((i : Int) < (tot : Int)) = false := dF (by omega)
   rw [show tot - i = 0 by omega] at hres
   have hres : some C = res := hres
   subst hres
   have l2 := h.load
   have oo := h.ones
   have hst : astore lim H 2 (.ptr (some (br, 0))) (.agg [cT, cP]) = some (H.set br (.cells [cT, cP])) := astore_at (n := 2) (o := 0) (x := .agg [cT, cP]) h.res (by have := h.low; omega) rfl (by show 0 + 2 ≤ 2; omega) (by show ([cT, cP].all fun v => v.one) = true; simp [oo.1.1, oo.1.2])
   have ld : aload (H.set br (.cells [cT, cP])) (some 2) (.ptr (some (br, 0))) = some (.agg [cT, cP]) := aload_all (cells_set_same (Heap.cells_lt h.res)) rfl
   (repeat (with_reducible first | ((first | apply bindP_intro | apply bind2_intro); (focus (first | rfl | (simp only [walkS, reduceIte, hcv, hd] <;> rfl)))) | apply cond_t | apply cond_f))
   unfold F16_j0
   (repeat (with_reducible first | ((first | apply bindP_intro | apply bind2_intro); (focus (first | rfl | (simp only [walkS, reduceIte, l2, hst, ld] <;> rfl)))) | apply cond_t | apply cond_f))
   exact hK _ _ (h.keep.setNew h.low.1 _) ⟨_, rfl, h.ref.set2 h.res rfl rfl oo.2, h.ok⟩
end
def rnumsF : Nat → List UInt8 → Option (List Nat × List UInt8)
 | 0, s => some ([], s)
 | k + 1, s => match rnum s with
  | none => none
  | some (n, r) => match rnumsF k r with
   | none => none
   | some (l, r') => some (n :: l, r')
theorem rquo_F (s : List UInt8) : (∀ q r, rquo s = some (q, r) ↔ ∃ a b c d, rnumsF 4 s = some ([a, b, c, d], r) ∧ q = ⟨(a : Int), (b : Int), (c : Int), (d : Int)⟩) ∧ (rquo s = none ↔ rnumsF 4 s = none) := by
 unfold rquo rnumsF rnumsF rnumsF rnumsF rnumsF
 cases h1 : rnum s with
 | none => simp
 | some x =>
  obtain ⟨a, s1⟩ := x
  simp only
  cases h2 : rnum s1 with
  | none => simp
  | some x =>
   obtain ⟨b, s2⟩ := x
   simp only
   cases h3 : rnum s2 with
   | none => simp
   | some x =>
    obtain ⟨c, s3⟩ := x
    simp only
    cases h4 : rnum s3 with
    | none => simp
    | some x =>
     obtain ⟨d, s4⟩ := x
     simp only
     refine ⟨fun q r => ⟨fun h => ?_, fun h => ?_⟩, by simp⟩
     ·simp only [Option.some.injEq, Prod.mk.injEq] at h
      obtain ⟨rfl, rfl⟩ := h
      exact ⟨a, b, c, d, rfl, rfl⟩
     ·obtain ⟨a', b', c', d', h, rfl⟩ := h
      simp only [Option.some.injEq, Prod.mk.injEq, List.cons.injEq, and_true] at h
      obtain ⟨⟨rfl, rfl, rfl, rfl⟩, rfl⟩ := h
      rfl
theorem rnumsF_len : ∀ (k : Nat) (s : List UInt8) {l : List Nat} {r : List UInt8}, rnumsF k s = some (l, r) → l.length = k
 | 0, s, l, r, h => by
  simp only [rnumsF, Option.some.injEq, Prod.mk.injEq] at h
  rw [← h.1]; rfl
 | k + 1, s, l, r, h => by
  unfold rnumsF at h
  split at h
  ·simp at h
  split at h
  ·simp at h
  rename_i n r1 h1 l' r' h2
  simp only [Option.some.injEq, Prod.mk.injEq] at h
  rw [← h.1, List.length_cons, rnumsF_len k _ h2]
theorem createC_fs (C : PCat) (s : Nat) (q : Quo) : (createC C s q).2.fs = C.fs := by
 unfold createC
 split
 ·rfl
 split
 ·rfl
 split
 ·rfl
 ·exact setQ_fs _ _ _
def encI1 (l : List Nat) : List (List AVal) := l.map fun (m : Nat) => [.int .i64 (m : Int)]
theorem fill_i64 (x : AVal) (h : x.cells = [x]) : fillV [(.int .i64 0)] [(0, 1, x)] = some [x] := by
 unfold fillV
 rw [h]
 rfl
section
variable {n lim N : Nat} {K : AVal → Heap → Prop} {H0 : Heap} {br bc : Nat}
theorem rr_nums {s : List UInt8} {C : PCat} {cT cP t6 : AVal} {Hs : Heap} {rec0 : AVal → AVal → AVal → AVal → AVal → Heap → Prop} (hn : 2030 ≤ n) (hlim : lim ≤ H0.next) (hsl : s.length ≤ 1000) (h : St16 H0 Hs br bc C cT cP) :
  ∀ (f k i at' : Nat) (nums : List Nat) (vl : AVal) (bl : Nat) (H : Heap), k + i = 4 → k < f → nums.length = i → at' ≤ s.length → Keeps2 Hs H → Own H 1 vl (encI1 nums) bl → Hs.next ≤ bl →
   (∀ l at2 vl' H' bl', rnumsF k (s.drop at') = some (l, s.drop at2) → at2 ≤ s.length → Keeps2 Hs H' → Own H' 1 vl' (encI1 (nums ++ l)) bl' → F16_j4 (Ahs.runT ap n) lim N K rec0 (.str s) (.ptr (some (br, 0))) (.ptr (some (bc, 0))) (.int .i64 (at2 : Int)) t6 (.bool true) vl' H') →
   (∀ H', Keeps2 H0 H' → rnumsF k (s.drop at') = none → K (.tup [.agg zf3f7a3, .bool false]) H') →
   F16_l2 (Ahs.runT ap n) lim N K rec0 f (.str s) (.ptr (some (br, 0))) (.ptr (some (bc, 0))) (.int .i64 (at' : Int)) t6 (.bool true) vl (.int .i64 (i : Int)) H
 | 0, k, i, at', nums, vl, bl, H, _, h, _, _, _, _, _, _, _ => by omega
 | f + 1, k, i, at', nums, vl, bl, H, hk, hf, hnl, hat, kb, ho, hbl, hc, hF => by
  show F16_s2 _ _ _ _ _ (F16_l2 _ _ _ _ _ f) _ _ _ _ _ _ _ _ _
  unfold F16_s2
  cases k with
  | zero =>
   have hd : decide ((i : Int) < 4) = false := dF (by omega)
   (repeat (with_reducible first | ((first | apply bindP_intro | apply bind2_intro); (focus (first | rfl | (simp only [walkS, reduceIte, hd] <;> rfl)))) | apply cond_t | apply cond_f))
   exact hc [] at' vl H bl rfl hat kb (by rw [List.append_nil]; exact ho)
  | succ k =>
   have hd : decide ((i : Int) < 4) = true := dT (by omega)
   have hsd := str_drop hat
   have hsn := h.keep.next
   obtain ⟨n', hn'⟩ : ∃ n', n = n' + 1 := ⟨n - 1, by omega⟩
   obtain ⟨_, H1, r1, rfl, k1⟩ := refr_c (H := H) (n := n') (lim := lim) (s := s.drop at') (by rw [List.length_drop]; omega) (by omega)
   rw [← hn'] at r1
   have kb1 := kb.trans k1
   have h1 := h.keepS kb1
   have hb : buildO zf3f7a3 [] = some (.agg zf3f7a3) := rfl
   obtain ⟨s1, s2, s3⟩ := h1.fail (lim := lim) hlim
   unfold rnumsF rnum at hc hF
   cases hv : rV (s.drop at') with
   | none =>
    rw [hv] at r1 hF
    have r1 : Ahs.runT ap n lim (.fn 60) [.str (s.drop at')] H = some (.tup [.int .u64 0, .int .i64 0, .bool false], H1) := r1
    (repeat (with_reducible first | ((first | apply bindP_intro | apply bind2_intro); (focus (first | rfl | (simp only [walkS, reduceIte, hd, hsd, r1, hb, s1, s2] <;> rfl)))) | apply cond_t | apply cond_f))
    exact hF _ s3 rfl
   | some x =>
    obtain ⟨m, j⟩ := x
    rw [hv] at r1 hc hF
    have r1 : Ahs.runT ap n lim (.fn 60) [.str (s.drop at')] H = some (.tup [.int .u64 (m : Int), .int .i64 (j : Int), .bool true], H1) := r1
    obtain ⟨t, q1, q2, q3⟩ := rV_some hv
    have hj : at' + j ≤ s.length := by
     have := congrArg List.length q1
     rw [List.length_drop, List.length_append] at this
     omega
    simp only at hc hF
    by_cases hm : 1000 < m
    ·have dm : decide ((1000 : Int) < (m : Int)) = true := dT (by omega)
     rw [if_pos hm] at hF
     (repeat (with_reducible first | ((first | apply bindP_intro | apply bind2_intro); (focus (first | rfl | (simp only [walkS, reduceIte, hd, hsd, r1, dm, hb, s1, s2] <;> rfl)))) | apply cond_t | apply cond_f))
     exact hF _ s3 rfl
    ·have dm : decide ((1000 : Int) < (m : Int)) = false := dF (by omega)
     rw [if_neg hm] at hF hc
     simp only [List.drop_drop] at hF hc
     have hcv : IntKind.i64.wrap (m : Int) = (m : Int) := wrap_i64 (by omega) (by omega)
     have hfv := fill_i64 (.int .i64 (m : Int)) rfl
     have o1 : Own H1 1 vl (encI1 nums) bl := ho.frame (.of (S := fun _ => False) k1) (fun e => e)
     obtain ⟨v', H2, b', p1, p2, p3, p4⟩ := push_row (lim := lim) (sz := 1) (bytes := 8) (zero := [(.int .i64 0)]) (y := [.int .i64 (m : Int)]) o1 hbl (by omega) kb1 rfl (by decide) ⟨rfl, rfl⟩ (by unfold encI1; rw [List.length_map]; unfold room; omega) (by unfold encI1; rw [List.length_map]; unfold room; omega)
     have haj : IntKind.i64.wrap ((at' : Int) + (j : Int)) = ((at' + j : Nat) : Int) := add_i64 (by omega)
     have hi1 : IntKind.i64.wrap ((i : Int) + 1) = ((i + 1 : Nat) : Int) := i64_succ (by omega)
     have e1 : encI1 nums ++ [[.int .i64 (m : Int)]] = encI1 (nums ++ [m]) := by unfold encI1; rw [List.map_append]; rfl
     rw [e1] at p2
     (repeat (with_reducible first | ((first | apply bindP_intro | apply bind2_intro); (focus (first | rfl | (simp only [walkS, reduceIte, hd, hsd, r1, dm, hcv, hfv, p1, haj, hi1] <;> rfl)))) | apply cond_t | apply cond_f))
     refine rr_nums hn hlim hsl h f k (i + 1) (at' + j) (nums ++ [m]) v' b' H2 (by omega) (by omega) (by rw [List.length_append, hnl]; rfl) hj p4 p2 p3 (fun l at2 vl' H' bl' e hat2 hst hov => ?_) (fun H' hk' e => hF H' hk' (by rw [e]))
     refine hc (m :: l) at2 vl' H' bl' (by rw [e]) hat2 hst ?_
     rw [List.append_assoc] at hov
     exact hov
theorem rr_slots {s : List UInt8} {res : Option PCat} (hn : 2030 ≤ n) (hN : 2000 ≤ N) (hlim : lim ≤ H0.next) (hsl : s.length ≤ 1000) (hK : ∀ v H', Keeps2 H0 H' → ROut H' v res → K v H') :
  ∀ (j i f at' : Nat) (C : PCat) (cT cP : AVal) (H : Heap), j + i = 4 → j < f → at' ≤ s.length → St16 H0 H br bc C cT cP → C.fs = [] → rall (rslots j i C (s.drop at')) = res →
   F16_l0 (Ahs.runT ap n) lim N K f (.str s) (.ptr (some (br, 0))) (.ptr (some (bc, 0))) (.int .i64 (at' : Int)) (.int .u8 (i : Int)) H
 | j, i, 0, at', C, cT, cP, H, _, h', _, _, _, _ => by omega
 | j, i, f + 1, at', C, cT, cP, H, hj, hf, hat, h, hfs, hres => by
  show F16_s0 _ _ _ _ (F16_l0 _ _ _ _ f) _ _ _ _ _ _
  unfold F16_s0
  obtain ⟨n', hn'⟩ : ∃ n', n = n' + 1 := ⟨n - 1, by omega⟩
  have hb : buildO zf3f7a3 [] = some (.agg zf3f7a3) := rfl
  have hal : alen true (.str s) = some (.int .i64 (s.length : Int)) := rfl
  have failed : ∀ H', Keeps2 H0 H' → res = none → K (.tup [.agg zf3f7a3, .bool false]) H' := fun H' hk e => hK _ _ hk (by rw [e]; exact rfl)
  cases j with
  | zero =>
   have hd : decide ((i : Int) < 4) = false := dF (by omega)
   have hres : rfin C (s.drop at') = res := hres
   have hsd := str_drop hat
   obtain ⟨_, H1, r1, rfl, k1⟩ := refr_c (H := H) (n := n') (lim := lim) (s := s.drop at') (by rw [List.length_drop]; omega) (by omega)
   rw [← hn'] at r1
   have h1 := h.keepS k1
   obtain ⟨s1, s2, s3⟩ := h1.fail (lim := lim) hlim
   unfold rfin at hres
   (repeat (with_reducible first | ((first | apply bindP_intro | apply bind2_intro); (focus (first | rfl | (simp only [walkS, reduceIte, hd] <;> rfl)))) | apply cond_t | apply cond_f))
   unfold F16_j2
   cases hv : rV (s.drop at') with
   | none =>
    rw [hv] at r1 hres
    have r1 : Ahs.runT ap n lim (.fn 60) [.str (s.drop at')] H = some (.tup [.int .u64 0, .int .i64 0, .bool false], H1) := r1
    have ha : IntKind.i64.wrap ((at' : Int) + 0) = (at' : Int) := wrap_i64 (by omega) (by omega)
    (repeat (with_reducible first | ((first | apply bindP_intro | apply bind2_intro); (focus (first | rfl | (simp only [walkS, reduceIte, hsd, r1, ha, Int.add_zero, hb, s1, s2] <;> rfl)))) | apply cond_t | apply cond_f))
    exact failed _ s3 hres.symm
   | some x =>
    obtain ⟨m, jj⟩ := x
    rw [hv] at r1 hres
    have r1 : Ahs.runT ap n lim (.fn 60) [.str (s.drop at')] H = some (.tup [.int .u64 (m : Int), .int .i64 (jj : Int), .bool true], H1) := r1
    obtain ⟨t, q1, q2, q3⟩ := rV_some hv
    have hjj : at' + jj ≤ s.length := by
     have := congrArg List.length q1
     rw [List.length_drop, List.length_append] at this
     omega
    simp only [List.drop_drop, List.length_drop] at hres
    have ha : IntKind.i64.wrap ((at' : Int) + (jj : Int)) = ((at' + jj : Nat) : Int) := add_i64 (by omega)
    have hsub : IntKind.i64.wrap ((s.length : Int) - ((at' + jj : Nat) : Int)) = ((s.length - (at' + jj) : Nat) : Int) := sub_i64 hjj (by omega)
    by_cases hm : 16 < m
    ·have dm : decide ((16 : Int) < (m : Int)) = true := dT (by omega)
     rw [if_pos (.inl hm)] at hres
     (repeat (with_reducible first | ((first | apply bindP_intro | apply bind2_intro); (focus (first | rfl | (simp only [walkS, reduceIte, hsd, r1, ha, dm, hb, s1, s2] <;> rfl)))) | apply cond_t | apply cond_f))
     exact failed _ s3 hres.symm
    ·have dm : decide ((16 : Int) < (m : Int)) = false := dF (by omega)
     have hcv : IntKind.i64.wrap (m : Int) = (m : Int) := wrap_i64 (by omega) (by omega)
     have hmul : IntKind.i64.wrap ((10 : Int) * (m : Int)) = ((10 * m : Nat) : Int) := by
      rw [show (10 : Int) * (m : Int) = ((10 * m : Nat) : Int) by omega]; exact wrap_i64 (by omega) (by omega)
     by_cases hne : s.length - (at' + jj) = 10 * m
     ·have e1 : (((s.length - (at' + jj) : Nat) : Int) != ((10 * m : Nat) : Int)) = false := by rw [hne]; simp
      rw [if_neg (by omega)] at hres
      (repeat (with_reducible first | ((first | apply bindP_intro | apply bind2_intro); (focus (first | rfl | (simp only [walkS, reduceIte, hsd, r1, ha, dm, hal, hsub, hcv, hmul, e1] <;> rfl)))) | apply cond_t | apply cond_f))
      exact rr_prins hn (by omega) hlim hsl (by omega) hK N 0 (at' + jj) C cT cP H1 (by omega) (Nat.zero_le _) h1 (by rw [hfs]; rfl) (by omega) hres
     ·have e1 : (((s.length - (at' + jj) : Nat) : Int) != ((10 * m : Nat) : Int)) = true := by
       have : ¬ ((s.length - (at' + jj) : Nat) : Int) = ((10 * m : Nat) : Int) := by omega
       simpa using this
      rw [if_pos (.inr hne)] at hres
      (repeat (with_reducible first | ((first | apply bindP_intro | apply bind2_intro); (focus (first | rfl | (simp only [walkS, reduceIte, hsd, r1, ha, dm, hal, hsub, hcv, hmul, e1, hb, s1, s2] <;> rfl)))) | apply cond_t | apply cond_f))
      exact failed _ s3 hres.symm
  | succ j =>
   have hd : decide ((i : Int) < 4) = true := dT (by omega)
   have hi1 : IntKind.u8.wrap ((i : Int) + 1) = ((i + 1 : Nat) : Int) := by
    rw [show ((i : Int) + 1) = ((i + 1 : Nat) : Int) by omega]; exact wrapN_u8 (by omega)
   obtain ⟨s1, s2, s3⟩ := h.fail (lim := lim) hlim
   by_cases hlt : at' < s.length
   ·have hge : decide ((s.length : Int) ≤ (at' : Int)) = false := dF (by omega)
    have hdrop : s.drop at' = s[at'] :: s.drop (at' + 1) := List.drop_eq_getElem_cons hlt
    have hx : aindexStr (.str s) (.int .i64 (at' : Int)) = some (.int .u8 ((s[at'].toNat : Nat) : Int)) := by
     have hj : natOf (.int .i64 (at' : Int)) = some at' := natOf_nat _ at'
     unfold aindexStr
     rw [hj]
     simp only [List.getElem?_eq_getElem hlt, Option.map_some]
    rw [hdrop] at hres
    unfold rslots at hres
    generalize s[at'] = c at hx hres hdrop
    by_cases h1c : 1 < c
    ·have d1 : decide ((1 : Int) < ((c.toNat : Nat) : Int)) = true := dT (by have := UInt8.lt_iff_toNat_lt.1 h1c; have e : (1 : UInt8).toNat = 1 := rfl; omega)
     rw [if_pos h1c] at hres
     (repeat (with_reducible first | ((first | apply bindP_intro | apply bind2_intro); (focus (first | rfl | (simp only [walkS, reduceIte, hd, hal, hge, hx, d1, hb, s1, s2] <;> rfl)))) | apply cond_t | apply cond_f))
     exact failed _ s3 hres.symm
    ·have hc1 : ¬ 1 < c.toNat := fun e => h1c (UInt8.lt_iff_toNat_lt.2 e)
     have d1 : decide ((1 : Int) < ((c.toNat : Nat) : Int)) = false := dF (by omega)
     have ha1 : IntKind.i64.wrap ((at' : Int) + 1) = ((at' + 1 : Nat) : Int) := i64_succ (by omega)
     rw [if_neg h1c] at hres
     by_cases hc : c = 1
     ·subst hc
      have e1 : ((((1 : UInt8).toNat : Nat) : Int) == 1) = true := rfl
      rw [if_pos rfl] at hres
      (repeat (with_reducible first | ((first | apply bindP_intro | apply bind2_intro); (focus (first | rfl | (simp only [walkS, reduceIte, hd, hal, hge, hx, d1, e1, ha1] <;> rfl)))) | apply cond_t | apply cond_f))
      refine rr_nums (Hs := H) hn hlim hsl h N 4 0 (at' + 1) [] (.sl none 0 (.ex 0)) H.next H rfl (by omega) rfl (by omega) (.refl _) ⟨fun x hx => by simp [encI1] at hx, .inl ⟨rfl, rfl⟩⟩ (Nat.le_refl _) ?_ ?_
      ·intro l at2 vl H1 bl hl hat2 kb ho
       rw [List.nil_append] at ho
       have hl4 := rnumsF_len 4 _ hl
       match l, hl4 with
       | [a, b, c, d], _ =>
        have hq := ((rquo_F (s.drop (at' + 1))).1 _ _).2 ⟨a, b, c, d, hl, rfl⟩
        rw [hq] at hres
        simp only at hres
        obtain ⟨q, hqd⟩ : ∃ q : Quo, q = ⟨(a : Int), (b : Int), (c : Int), (d : Int)⟩ := ⟨_, rfl⟩
        rw [← hqd] at hres
        have h1 := h.keepS kb
        have hsl1 := ho.sl
        have l2 := h1.load
        have x0 : aindexAddr none 1 vl (.int .i64 0) = some (Ahs.slot vl 0) := hsl1.addr (k := .i64) (i := 0) (by show 0 < 4; omega)
        have x1 : aindexAddr none 1 vl (.int .i64 1) = some (Ahs.slot vl 1) := hsl1.addr (k := .i64) (i := 1) (by show 1 < 4; omega)
        have x2 : aindexAddr none 1 vl (.int .i64 2) = some (Ahs.slot vl 2) := hsl1.addr (k := .i64) (i := 2) (by show 2 < 4; omega)
        have x3 : aindexAddr none 1 vl (.int .i64 3) = some (Ahs.slot vl 3) := hsl1.addr (k := .i64) (i := 3) (by show 3 < 4; omega)
        have y0 : aload H1 none (Ahs.slot vl 0) = some (.int .i64 (a : Int)) := hsl1.load1 (i := 0) (x := .int .i64 (a : Int)) rfl
        have y1 : aload H1 none (Ahs.slot vl 1) = some (.int .i64 (b : Int)) := hsl1.load1 (i := 1) (x := .int .i64 (b : Int)) rfl
        have y2 : aload H1 none (Ahs.slot vl 2) = some (.int .i64 (c : Int)) := hsl1.load1 (i := 2) (x := .int .i64 (c : Int)) rfl
        have y3 : aload H1 none (Ahs.slot vl 3) = some (.int .i64 (d : Int)) := hsl1.load1 (i := 3) (x := .int .i64 (d : Int)) rfl
        have hbq : buildO z547173 [(0, 1, .int .i64 (a : Int)), (1, 1, .int .i64 (b : Int)), (2, 1, .int .i64 (c : Int)), (3, 1, .int .i64 (d : Int))] = some (.agg (encQ q)) := by rw [hqd]; rfl
        have h1n := h1.keep.next
        obtain ⟨r, G2, r2, hO⟩ := rcreate_c (n := n') (lim := lim) (s := i) h1.ref h1.ok (by omega) (by omega) q (by omega)
        rw [← hn'] at r2
        obtain ⟨dT, dP, rfl, R2, k2, o2, p2⟩ := R20.out hO
        have k2n := k2.next
        have k3 : Keeps2 G2 (G2.push (.cells [dT, dP])) := .push _ _
        have hst : astore lim (G2.push (.cells zf3f7a3)) 2 (.ptr (some (G2.next, 0))) (.agg [dT, dP]) = some (G2.push (.cells [dT, dP])) := astore_new (cs := zf3f7a3) (x := .agg [dT, dP]) (by omega) rfl rfl (by show ([dT, dP].all fun v => v.one) = true; simp [o2.1, o2.2])
        have h3 := (h1.keepS k2).keepS k3
        have hok2 := (createC_ok h1.ok (s := i) (q := q)).1
        unfold F16_j4
        by_cases hz : (createC C i q).1 = 0
        ·have ez : ((createC C i q).1 != 0) = false := by rw [hz]; rfl
         rw [if_pos hz] at hres
         have ld : aload (G2.push (.cells [dT, dP])) (some 2) (.ptr (some (G2.next, 0))) = some (.agg [dT, dP]) := aload_newA G2 rfl
         obtain ⟨t1, h4⟩ := h3.put (R2.keep k3) hok2 hlim
         (repeat (with_reducible first | ((first | apply bindP_intro | apply bind2_intro); (focus (first | rfl | (simp only [walkS, reduceIte, l2, x0, y0, x1, y1, x2, y2, x3, y3, hbq, r2, hst, ez, ld, t1] <;> rfl)))) | apply cond_t | apply cond_f))
         unfold F16_j3
         (repeat (with_reducible first | ((first | apply bindP_intro | apply bind2_intro); (focus (first | rfl | (simp only [walkS, reduceIte, hi1] <;> rfl)))) | apply cond_t | apply cond_f))
         exact rr_slots hn hN hlim hsl hK j (i + 1) f at2 _ dT dP _ (by omega) (by omega) hat2 h4 (by rw [createC_fs]; exact hfs) hres
        ·have ez : ((createC C i q).1 != 0) = true := by simpa using hz
         rw [if_neg hz] at hres
         obtain ⟨t1, t2, t3⟩ := h3.fail (lim := lim) hlim
         (repeat (with_reducible first | ((first | apply bindP_intro | apply bind2_intro); (focus (first | rfl | (simp only [walkS, reduceIte, l2, x0, y0, x1, y1, x2, y2, x3, y3, hbq, r2, hst, ez, hb, t1, t2] <;> rfl)))) | apply cond_t | apply cond_f))
         exact failed _ t3 hres.symm
      ·intro H' hk' e
       rw [(rquo_F (s.drop (at' + 1))).2.2 e] at hres
       exact failed _ hk' hres.symm
     ·have hcn : ¬ ((c.toNat : Nat) : Int) = 1 := fun e => hc (UInt8.toNat_inj.1 (by show c.toNat = 1; omega))
      have e1 : (((c.toNat : Nat) : Int) == 1) = false := eqF hcn
      rw [if_neg hc] at hres
      obtain ⟨N', hN'⟩ : ∃ N', N = N' + 1 := ⟨N - 1, by omega⟩
      have out : F16_l2 (Ahs.runT ap n) lim N K (F16_l0 (Ahs.runT ap n) lim N K f) N (.str s) (.ptr (some (br, 0))) (.ptr (some (bc, 0))) (.int .i64 ((at' + 1 : Nat) : Int)) (.int .u8 (i : Int)) (.bool false) (.sl none 0 (.ex 0)) (.int .i64 0) H := by
       conv => arg 6; rw [hN']
       show F16_s2 _ _ _ _ _ (F16_l2 _ _ _ _ _ N') _ _ _ _ _ _ _ _ _
       unfold F16_s2
       have hd0 : decide ((0 : Int) < 4) = true := rfl
       (repeat (with_reducible first | ((first | apply bindP_intro | apply bind2_intro); (focus (first | rfl | (simp only [walkS, reduceIte, hd0] <;> rfl)))) | apply cond_t | apply cond_f))
       unfold F16_j4
       (repeat (with_reducible first | ((first | apply bindP_intro | apply bind2_intro); (focus (first | rfl | (simp only [walkS, reduceIte] <;> rfl)))) | apply cond_t | apply cond_f))
       unfold F16_j3
       (repeat (with_reducible first | ((first | apply bindP_intro | apply bind2_intro); (focus (first | rfl | (simp only [walkS, reduceIte, hi1] <;> rfl)))) | apply cond_t | apply cond_f))
       exact rr_slots hn hN hlim hsl hK j (i + 1) f (at' + 1) C cT cP H (by omega) (by omega) (by omega) h hfs hres
      (repeat (with_reducible first | ((first | apply bindP_intro | apply bind2_intro); (focus (first | rfl | (simp only [walkS, reduceIte, hd, hal, hge, hx, d1, e1, ha1] <;> rfl)))) | apply cond_t | apply cond_f))
      exact out
   ·have hge : decide ((s.length : Int) ≤ (at' : Int)) = true := dT (by omega)
    rw [List.drop_eq_nil_of_le (by omega)] at hres
    have hres : none = res := hres
    (repeat (with_reducible first | ((first | apply bindP_intro | apply bind2_intro); (focus (first | rfl | (simp only [walkS, reduceIte, hd, hal, hge, hb, s1, s2] <;> rfl)))) | apply cond_t | apply cond_f))
    exact failed _ s3 hres.symm
theorem rread_c {s : List UInt8} {H : Heap} (hlim : lim ≤ H.next) (hn : 2030 ≤ n) (hsl : s.length ≤ 1000) : ∃ r H', Ahs.runT ap (n + 1) lim (.fn 16) [.str s] H = some (r, H') ∧ ROut H' r (rRead s) ∧ Keeps2 H H' := by
 refine F16_run a16 ?_
 unfold F16
 have hz : buildO zf3f7a3 [] = some (.agg zf3f7a3) := rfl
 have n1 : (H.push (.cells zf3f7a3)).next = H.next + 1 := Heap.next_push _ _
 have hst : astore lim ((H.push (.cells zf3f7a3)).push (.cells zf3f7a3)) 2 (.ptr (some ((H.push (.cells zf3f7a3)).next, 0))) (.agg zf3f7a3) = some ((H.push (.cells zf3f7a3)).push (.cells zf3f7a3)) := astore_new (cs := zf3f7a3) (x := .agg zf3f7a3) (by omega) rfl rfl rfl
 have k2 : Keeps2 H ((H.push (.cells zf3f7a3)).push (.cells zf3f7a3)) := (Keeps2.push _ _).trans (.push _ _)
 have st : St16 H ((H.push (.cells zf3f7a3)).push (.cells zf3f7a3)) H.next (H.next + 1) newC (.sl none 0 (.ex 0)) (.sl none 0 (.ex 0)) :=
  ⟨k2, cells_push_old (cells_push_new H _), by rw [← n1]; exact cells_push_new _ _, R20.new _, ok_new, by omega, ⟨Nat.le_refl _, by omega⟩⟩
 (repeat (with_reducible first | ((first | apply bindP_intro | apply bind2_intro); (focus (first | rfl | (simp only [walkS, reduceIte, hz, hst] <;> rfl)))) | apply cond_t | apply cond_f))
 rw [n1]
 refine rr_slots (H0 := H) (res := rRead s) hn ?_ hlim hsl ?_ 4 0 _ 0 newC _ _ _ rfl ?_ (Nat.zero_le _) st rfl (by rw [List.drop_zero, rRead_eq])
 ·omega
 ·exact fun v H' hk hO => ⟨hO, hk⟩
 ·omega
theorem reads_mid {s : List UInt8} {H : Heap} (hlim : lim ≤ H.next) (hn : 1000020 ≤ n) (hsl : s.length ≤ 1000) (hK : ∀ H', K (.bool true) H') : F3_j0 (Ahs.runT ap n) lim N K (.str s) H := by
 unfold F3_j0
 obtain ⟨n', hn'⟩ : ∃ n', n = n' + 1 := ⟨n - 1, by omega⟩
 obtain ⟨v1, H1, r1, hv1, k1⟩ := read_c (n := n') (lim := lim) (H := H) (s := s) hlim (by omega) (by omega)
 have k1n := k1.next
 obtain ⟨v2, H2, r2, hv2, k2⟩ := rread_c (n := n') (lim := lim) (H := H1) (s := s) (by omega) (by omega) hsl
 rw [← hn'] at r1 r2
 rw [read_same] at hv2
 have k2n := k2.next
 have hb := fun G => b19 (n := n') (lim := lim) (H := G)
 cases hr : readC s with
 | none =>
  rw [hr] at hv1 hv2
  obtain rfl : v1 = .tup [.ptr none, .bool false] := hv1
  obtain rfl : v2 = .tup [.agg zf3f7a3, .bool false] := hv2
  have hst : astore lim (H2.push (.cells zf3f7a3)) 2 (.ptr (some (H2.next, 0))) (.agg zf3f7a3) = some (H2.push (.cells zf3f7a3)) := astore_new (cs := zf3f7a3) (x := .agg zf3f7a3) (by omega) rfl rfl rfl
  have q1 : eqvO true .bool (.bool false) (.bool false) = some (.bool false) := rfl
  have q2 : eqvO true .ptr (.ptr none) (.ptr none) = some (.bool false) := rfl
  have hbb := hb (H2.push (.cells zf3f7a3))
  rw [← hn'] at hbb
  (repeat (with_reducible first | ((first | apply bindP_intro | apply bind2_intro); (focus (first | rfl | (simp only [walkS, reduceIte, r1, r2, hst, q1, q2, hbb] <;> rfl)))) | apply cond_t | apply cond_f))
  exact hK _
 | some C =>
  rw [hr] at hv1 hv2
  obtain ⟨b, m, rfl, c1, hok, g1, g2⟩ := hv1
  obtain ⟨u, rfl, hu, _⟩ := hv2
  obtain ⟨_, hs⟩ := read_some hr
  have hu' := hu
  obtain ⟨uT, uP, rfl, hT, hP, _⟩ := hu'.ex
  have hst : astore lim (H2.push (.cells zf3f7a3)) 2 (.ptr (some (H2.next, 0))) (.agg [uT, uP]) = some (H2.push (.cells [uT, uP])) := astore_new (cs := zf3f7a3) (x := .agg [uT, uP]) (by omega) rfl rfl (by show ([uT, uP].all fun v => v.one) = true; simp [hT.one.1, hP.one.1])
  have k3 : Keeps2 H2 (H2.push (.cells [uT, uP])) := .push _ _
  have x3 : (H2.push (.cells [uT, uP])).cells H2.next = some [uT, uP] := cells_push_new _ _
  generalize hH3 : H2.push (.cells [uT, uP]) = H3 at *
  have k3n := k3.next
  have q1 : eqvO true .bool (.bool true) (.bool true) = some (.bool false) := rfl
  have q2 : eqvO true .ptr (.ptr (some (b, 0))) (.ptr none) = some (.bool true) := rfl
  obtain ⟨_, H4, r4, rfl, k4⟩ := write_c (n := n') (lim := lim) (c1.keep (k2.trans k3)) hok (by omega) (by omega)
  have k4n := k4.next
  have es : (writeC C == s) = true := by rw [← hs]; simp
  have l4 : aload H4 (some 2) (.ptr (some (H2.next, 0))) = some (.agg [uT, uP]) := aload_all (k4.cells x3) rfl
  obtain ⟨_, H5, r5, rfl, k5⟩ := rwrite_c (n := n') (lim := lim) (hu.keep (k3.trans k4)) hok (by omega) (by omega)
  have hbb := hb H5
  rw [← hn'] at r4 r5 hbb
  (repeat (with_reducible first | ((first | apply bindP_intro | apply bind2_intro); (focus (first | rfl | (simp only [walkS, reduceIte, r1, r2, hst, hH3, q1, q2, r4, es, l4, r5, hbb] <;> rfl)))) | apply cond_t | apply cond_f))
  exact hK _
theorem reads_c {s : List UInt8} {H : Heap} (hn : 1000020 ≤ n) (hs : s.length ≤ maxLen) : ∃ r H', Ahs.runT ap (n + 1) H.next (.fn 3) [.str s] H = some (r, H') ∧ r = .bool true := by
 refine F3_run a3 ?_
 unfold F3
 have hal : alen true (.str s) = some (.int .i64 (s.length : Int)) := rfl
 by_cases h : 1000 < s.length
 ·have d : decide ((1000 : Int) < (s.length : Int)) = true := dT (by omega)
  have hsl : asliceStr (.str s) none (some (.int .i64 1000)) = some (.str (s.take 1000)) := by
   have hj : natOf (.int .i64 1000) = some 1000 := rfl
   simp only [asliceStr, natOr, hj, Option.bind_eq_bind, Option.bind_some]
   rw [if_pos ⟨by omega, Nat.zero_le _⟩]
   simp
  (repeat (with_reducible first | ((first | apply bindP_intro | apply bind2_intro); (focus (first | rfl | (simp only [walkS, reduceIte, hal, d, hsl] <;> rfl)))) | apply cond_t | apply cond_f))
  exact reads_mid (Nat.le_refl _) hn (by rw [List.length_take]; omega) (fun _ => rfl)
 ·have d : decide ((1000 : Int) < (s.length : Int)) = false := dF (by omega)
  (repeat (with_reducible first | ((first | apply bindP_intro | apply bind2_intro); (focus (first | rfl | (simp only [walkS, reduceIte, hal, d] <;> rfl)))) | apply cond_t | apply cond_f))
  exact reads_mid (Nat.le_refl _) hn (by omega) (fun _ => rfl)
theorem reads_walk (H : Heap) (vs : List AVal) (h : WfArgs H [(false, .str .nil)] vs) : ∃ n, isTrue (run ap n H.next 3 vs H) = true := by
 obtain ⟨a0, _, rfl, h0, rfl⟩ := h
 simp only [Bool.false_eq_true, if_false] at h0
 obtain ⟨s, _, e, hs, _⟩ := h0
 simp only [List.cons.injEq] at e
 obtain ⟨rfl, _⟩ := e
 exact ⟨_, isTrue_run (reads_c (n := 2000000) (by omega) hs)⟩
end
end Go.Proofs.Ytjflpnahjooffaa.cat
