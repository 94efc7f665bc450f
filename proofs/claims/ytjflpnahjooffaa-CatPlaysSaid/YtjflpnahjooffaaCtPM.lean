/- The laws of the catalogue: acts, as they are handed in. -/
import Derived.Test.YtjflpnahjooffaaCtM
import Derived.Test.YtjflpnahjooffaaChsX3
set_option maxRecDepth 100000
set_option linter.unusedVariables false
set_option linter.unusedSimpArgs false
namespace Go.Proofs.Ytjflpnahjooffaa.cat
open Go.Ahs
structure ActsAt (H : Heap) (v : AVal) (l : List PAct) : Prop where
 len : l.length ≤ maxLen
 sl : Sl H 15 v (l.map encA)
 wf : ∀ a ∈ l, WfA a
def actTy : Ty := .int .u8 (.int .u8 (.int .u8 (.int .u8 (.int .u8 (.int .u8 (.int .u8 (.int .u8 (.int .u8 (.int .u8 (.int .u8 (.int .i64 (.int .i64 (.int .i64 (.int .i64 .nil))))))))))))))
theorem ActsAt.keep {H H' : Heap} (hk : Keeps2 H H') {v : AVal} {l : List PAct} (h : ActsAt H v l) : ActsAt H' v l := ⟨h.len, h.sl.keep hk, h.wf⟩
theorem nat_u8 {n : Int} (h : 0 ≤ n ∧ n ≤ 255) : ((n.toNat : Nat) : Int) = n ∧ n.toNat < 256 := by omega
theorem byte_u8 {n : Int} (h : 0 ≤ n ∧ n ≤ 255) : (((UInt8.ofNat n.toNat).toNat : Nat) : Int) = n := by
 rw [toNat_of (by omega)]; omega
theorem wf_act {H : Heap} {x : List AVal} (h : Wf H actTy x) : ∃ a : PAct, x = encA a ∧ WfA a := by
 obtain ⟨d, _, rfl, hd, s, _, rfl, hs, r, _, rfl, hr, t0, _, rfl, h0, t1, _, rfl, h1, t2, _, rfl, h2, t3, _, rfl, h3, t4, _, rfl, h4, t5, _, rfl, h5, t6, _, rfl, h6, t7, _, rfl, h7, k, _, rfl, _, b, _, rfl, _, q, _, rfl, _, u, _, rfl, _, rfl⟩ := h
 have hd := wfU8 hd
 have hs := wfU8 hs
 have hr := wfU8 hr
 refine ⟨⟨d.toNat, s.toNat, r.toNat, ⟨[UInt8.ofNat t0.toNat, UInt8.ofNat t1.toNat, UInt8.ofNat t2.toNat, UInt8.ofNat t3.toNat, UInt8.ofNat t4.toNat, UInt8.ofNat t5.toNat, UInt8.ofNat t6.toNat, UInt8.ofNat t7.toNat], rfl⟩, ⟨k, b, q, u⟩⟩, ?_, ⟨(nat_u8 hd).2, (nat_u8 hs).2, (nat_u8 hr).2⟩⟩
 unfold encA encB encQ
 simp only [List.map_cons, List.map_nil, List.cons_append, List.nil_append, (nat_u8 hd).1, (nat_u8 hs).1, (nat_u8 hr).1, byte_u8 (wfU8 h0), byte_u8 (wfU8 h1), byte_u8 (wfU8 h2), byte_u8 (wfU8 h3), byte_u8 (wfU8 h4), byte_u8 (wfU8 h5), byte_u8 (wfU8 h6), byte_u8 (wfU8 h7)]
theorem wf_acts {H : Heap} {v : AVal} (h : Wf H (.slice actTy .nil) [v]) : ∃ l : List PAct, ActsAt H v l := by
 obtain ⟨v', _, e, _, ⟨xs, h1, h2, h3⟩, _⟩ := h
 simp only [List.cons.injEq] at e
 obtain ⟨rfl, _⟩ := e
 obtain ⟨l, hl, hq⟩ := wf_list (α := PAct) (Q := fun x a => x = encA a ∧ WfA a) (fun x hx => wf_act hx) h3
 have e := wf_eqs (enc := encA) hl fun i x a e1 e2 => (hq i x a e1 e2).1
 refine ⟨l, by rw [hl]; exact h2, by rw [← e]; exact h1, fun a ha => ?_⟩
 obtain ⟨i, hi, rfl⟩ := List.getElem_of_mem ha
 exact (hq i xs[i] l[i] (List.getElem?_eq_getElem (by omega)) (List.getElem?_eq_getElem hi)).2
def playC : PCat → List PAct → PCat
 | C, [] => C
 | C, a :: l => playC (actC C a).2 l
theorem playC_ok : ∀ (l : List PAct) {C : PCat}, OkC C → OkC (playC C l)
 | [], C, h => h
 | a :: l, C, h => playC_ok l (actC_ok h a).1
theorem CatAt.ltb {H : Heap} {b m : Nat} {C : PCat} (h : CatAt H b m C) : b < H.next ∧ m < H.next := ⟨Heap.cells_lt h.cells, h.map.lt⟩
theorem act_at {H : Heap} {v : AVal} {l : List PAct} {i : Nat} (h : ActsAt H v l) (hi : i < l.length) : ∃ a, l[i]? = some a ∧ WfA a ∧ aindexAddr none 15 v (.int .i64 (i : Int)) = some (Ahs.slot v (i * 15)) ∧ aload H (some 15) (Ahs.slot v (i * 15)) = some (.agg (encA a)) ∧ l.drop i = a :: l.drop (i + 1) := by
 have hx : l[i]? = some l[i] := List.getElem?_eq_getElem hi
 refine ⟨l[i], hx, h.wf _ (List.getElem_mem hi), h.sl.addr (by rw [List.length_map]; exact hi), h.sl.load (by rw [List.getElem?_map, hx]; rfl), List.drop_eq_getElem_cons hi⟩
abbrev Ten := Nat × Quo
def rowT (x : Ten) : List AVal := .int .u8 (x.1 : Int) :: encQ x.2
def rowP (x : Ent) : List AVal := [.str x.1.1, .int .u8 (x.2.1 : Int), .int .u8 (x.2.2 : Int)]
def tenL (C : PCat) : List Ten := ([0, 1, 2, 3].map fun s => (s, C.q s)).filter fun x => decide (0 < x.2.k)
theorem rowT_ok (x : Ten) : (rowT x).length = 5 ∧ (rowT x).all (·.one) = true := ⟨rfl, rfl⟩
theorem rowP_ok (x : Ent) : (rowP x).length = 3 ∧ (rowP x).all (·.one) = true := ⟨rfl, rfl⟩
structure R20 (H : Heap) (v : AVal) (C : PCat) : Prop where
 ex : ∃ vT vP, v = .agg [vT, vP] ∧ Fz H 5 vT ((tenL C).map rowT) ∧ Fz H 3 vP (C.fs.map rowP) ∧ ∀ b, slBlk vP = some b → ∃ cs, H.cells b = some cs ∧ cs.all plainV = true
theorem R20.keep {H H' : Heap} {v : AVal} {C : PCat} (h : R20 H v C) (hk : Keeps2 H H') : R20 H' v C := by
 obtain ⟨vT, vP, h1, h2, h3, h4⟩ := h.ex
 exact ⟨vT, vP, h1, h2.keep hk, h3.keep hk, fun b hb => by obtain ⟨cs, q1, q2⟩ := h4 b hb; exact ⟨cs, hk.cells q1, q2⟩⟩
theorem R20.new (H : Heap) : R20 H (.agg zf3f7a3) newC := ⟨.sl none 0 (.ex 0), .sl none 0 (.ex 0), rfl, Fz.nil _ _, Fz.nil _ _, fun b hb => by simp [slBlk] at hb⟩
def lkT (l : List Ten) (s : Nat) : Quo × Bool := match l with
 | [] => (noQ, false)
 | x :: l => if x.1 = s then (x.2, true) else lkT l s
theorem lkT_ten (C : PCat) (s : Nat) : lkT (tenL C) s = quotaC C s := by
 unfold tenL quotaC
 simp only [List.map_cons, List.map_nil, PCat.q]
 by_cases h0 : 0 < C.q0.k <;> by_cases h1 : 0 < C.q1.k <;> by_cases h2 : 0 < C.q2.k <;> by_cases h3 : 0 < C.q3.k <;>
  simp only [List.filter_cons, List.filter_nil, h0, h1, h2, h3, decide_true, decide_false, if_true, Bool.false_eq_true, if_false, lkT] <;>
  (match s with
   | 0 => simp [PCat.q, h0]
   | 1 => simp [PCat.q, h1]
   | 2 => simp [PCat.q, h2]
   | 3 => simp [PCat.q, h3]
   | s + 4 => simp [show ¬ (0 = s + 4) by omega, show ¬ (1 = s + 4) by omega, show ¬ (2 = s + 4) by omega, show ¬ (3 = s + 4) by omega, show ¬ (s + 4 < 4) by omega])
theorem tenL_mem {C : PCat} {x : Ten} (h : x ∈ tenL C) : x.1 < 4 ∧ x.2 = C.q x.1 ∧ 0 < x.2.k := by
 unfold tenL at h
 obtain ⟨h1, h2⟩ := List.mem_filter.1 h
 obtain ⟨s, hs, rfl⟩ := List.mem_map.1 h1
 simp at hs
 exact ⟨by show s < 4; omega, rfl, by simpa using h2⟩
theorem tenL_len (C : PCat) : (tenL C).length ≤ 4 := Nat.le_trans (List.length_filter_le _ _) (by simp)
def whoL (l : List Ent) (t : Tok) : Nat × Nat × Bool := match l with
 | [] => (0, 0, false)
 | x :: l => if x.1 = t then (x.2.1, x.2.2, true) else whoL l t
theorem whoL_who (C : PCat) (t : Tok) : whoL C.fs t = whoC C t := by
 unfold whoC
 generalize C.fs = fs
 induction fs with
 | nil => rfl
 | cons x fs ih =>
  unfold whoL
  by_cases h : x.1 = t
  ·rw [if_pos h]
   have : lk (x :: fs) t = some x.2 := by unfold lk; simp [h]
   rw [this]
  ·rw [if_neg h, ih]
   have : lk (x :: fs) t = lk fs t := by unfold lk; simp [h]
   rw [this]
theorem gtS (a b : List UInt8) : abin .gtr (.str a) (.str b) = some (.bool (decide (b < a))) := by
 show some (AVal.bool !(Op.bytesLess a b || a == b)) = _
 rw [Go.Proofs.bytesLess_eq]
 congr 2
 by_cases h : b < a
 ·have h1 : ¬ a < b := fun e => List.lt_irrefl _ (List.lt_trans h e)
  have h2 : ¬ a = b := fun e => by rw [e] at h; exact List.lt_irrefl _ h
  simp [h, h1, h2]
 ·by_cases h1 : a < b
  ·simp [h, h1]
  ·have : a = b := List.le_antisymm (List.not_lt.1 h) (List.not_lt.1 h1)
   simp [this]
theorem geS (a b : List UInt8) : abin .geq (.str a) (.str b) = some (.bool !(decide (a < b))) := by
 show some (AVal.bool !(Op.bytesLess a b)) = _
 rw [Go.Proofs.bytesLess_eq]
theorem blk_slot {v : AVal} {k b : Nat} (h : blkOf (Ahs.slot v k) = some b) : slBlk v = some b := by
 unfold Ahs.slot at h
 split at h
 ·simp only [blkOf, Option.some.injEq] at h
  rw [← h]; rfl
 ·simp [blkOf] at h
theorem loadn {H : Heap} {sz : Nat} {v : AVal} {xs : List (List AVal)} (h : Sl H sz v xs) {i : Nat} {x : List AVal} (hx : xs[i]? = some x) {f k : Nat} (hf : f + k ≤ sz) : aload H (some k) (Ahs.slot v (i * sz + f)) = some (.agg ((x.drop f).take k)) := by
 obtain ⟨b, o, cs, _, h1, h2, h3, h4⟩ := h.cut hx
 rw [h1, aload_agg h2]
 unfold Ahs.cut
 rw [if_pos (by omega)]
 have : ((x.drop f).take k) = ((cs.drop (o + f)).take k) := by
  rw [← h4, List.drop_take, List.drop_drop, List.take_take, Nat.min_eq_left (by omega)]
 rw [this]; rfl
theorem fill_row {z y : List AVal} {sz : Nat} (hz : z.length = sz) (hy : y.length = sz) : fillV z [(0, sz, .agg y)] = some y := by
 unfold fillV
 have hc : (AVal.agg y).cells = y := rfl
 rw [hc, if_pos ⟨hy, by omega⟩]
 unfold fillV
 rw [put_all (by omega)]
theorem Own.fz {H : Heap} {sz : Nat} {v : AVal} {xs : List (List AVal)} {bv : Nat} (h : Own H sz v xs bv) : Fz H sz v xs := by
 refine ⟨h.1, ?_⟩
 rcases h.2 with ⟨rfl, rfl⟩ | ⟨o, cs, rfl, rfl, h3, h4⟩ | ⟨rfl, h4⟩
 ·exact .inl ⟨rfl, rfl⟩
 ·exact .inr ⟨bv, o, .ex 0, cs, rfl, Nat.le_refl _, h3, by simpa using h4, by simp⟩
 ·have hl := flatten_len (fun x hx => (h.1 x hx).1)
  exact .inr ⟨bv, 0, .op sz 0, _, rfl, rfl, h4, by rw [hl]; omega, by rw [List.drop_zero, List.take_of_length_le (by omega)]⟩
theorem push_row {lim sz bytes : Nat} {zero : List AVal} {H0 H : Heap} {vo : AVal} {rows : List (List AVal)} {bo : Nat} {y : List AVal} (ho : Own H sz vo rows bo) (hb : H0.next ≤ bo) (hlim : lim ≤ H0.next) (k0 : Keeps2 H0 H) (hz : zero.length = sz) (hs : 0 < sz)
  (hy : y.length = sz ∧ y.all (·.one) = true) (hroom : (rows.length + 1) * bytes ≤ room) (hroom2 : rows.length + 1 ≤ room) :
  ∃ v' H' b', aappend lim (H.push (.cells y)) zero bytes false vo (.sl (some (H.next, 0)) 1 (.ex 1)) = some (v', H') ∧ Own H' sz v' (rows ++ [y]) b' ∧ H0.next ≤ b' ∧ Keeps2 H0 H' := by
 have k1 : Keeps2 H (H.push (.cells y)) := .push _ _
 have o1 : Own (H.push (.cells y)) sz vo rows bo := ho.frame (.of (S := fun _ => False) k1) (fun e => e)
 have hsrc : source (H.push (.cells y)) sz (.sl (some (H.next, 0)) 1 (.ex 1)) = some (([y] : List (List AVal)).length, ([y] : List (List AVal)).flatten) := by
  rw [source_new H (n := 1) (by rw [hy.1]; omega) (by decide)]
  simp
 obtain ⟨v', H', b', h1, h2, h3, h4, h5⟩ := own_append (lim := lim) (zero := zero) (bytes := bytes) o1 hz hs hsrc (fun z hz => by simp at hz; subst hz; exact hy) (by simpa using hroom) (by simpa using hroom2) (fun _ => by omega)
 have hkn := (k0.trans k1).next
 refine ⟨v', H', b', h1, h2, ?_, Fram.keeps (k0.trans k1) h3 fun c hc e => by have := o1.blk c e; omega⟩
 rcases h4 with ⟨_, e | e⟩ | e
 ·simp at e
 ·exact e.elim
 ·omega
section
variable {H : Heap} {C : PCat}
theorem text_loop {n lim N : Nat} {K : AVal → Heap → Prop} {H0 : Heap} {bx : Nat} {t : Tok} (hb : H0.cells bx = some (encB t.1)) (hK : ∀ H', Keeps2 H0 H' → K (.str t.1) H') :
  ∀ (q i : Nat) (H : Heap), 8 < q + i → i ≤ 8 → Keeps2 H0 H → F62_l0 (Ahs.runT ap n) lim N K q (.ptr (some (bx, 0))) (.str (t.1.take i)) (.int .i64 (i : Int)) H
 | 0, i, H, h1, h2, _ => by exfalso; omega
 | q + 1, i, H, hq, hi, k0 => by
  show F62_s0 _ _ _ _ (F62_l0 _ _ _ _ q) _ _ _ _
  unfold F62_s0
  have hl := t.2
  by_cases h8 : i < 8
  ·have hd : decide ((i : Int) < 8) = true := dT (by omega)
   have hj : natOf (.int .i64 (i : Int)) = some i := natOf_nat _ i
   have had : aindexAddr (some 8) 1 (.ptr (some (bx, 0))) (.int .i64 (i : Int)) = some (.ptr (some (bx, i))) := by
    unfold aindexAddr
    simp only [hj]
    rw [if_pos h8]; simp
   have hc := k0.cells hb
   have hx : t.1[i]? = some t.1[i] := List.getElem?_eq_getElem (by omega)
   have hld : aload H none (.ptr (some (bx, i))) = some (.int .u8 ((t.1[i].toNat : Nat) : Int)) := by
    rw [aload_one hc]
    unfold encB
    rw [List.getElem?_map, hx]; rfl
   have hf := fill_one (.int .u8 ((t.1[i].toNat : Nat) : Int)) rfl
   have hb1 := byte_one H (m := t.1[i].toNat) t.1[i].toNat_lt
   rw [UInt8.ofNat_toNat] at hb1
   have hs : abin .add (.str (t.1.take i)) (.str [t.1[i]]) = some (.str (t.1.take (i + 1))) := by
    rw [sadd (by rw [List.length_take]; simp; omega), List.take_succ_eq_append_getElem (by omega)]
   have hi1 : IntKind.i64.wrap ((i : Int) + 1) = ((i + 1 : Nat) : Int) := i64_succ (by omega)
   (repeat (with_reducible first | ((first | apply bindP_intro | apply bind2_intro); (focus (first | rfl | (simp only [walkS, reduceIte, hd, had, hld, hf, hb1, hs, hi1] <;> rfl)))) | apply cond_t | apply cond_f))
   exact text_loop hb hK q (i + 1) _ (by omega) (by omega) (k0.trans (.push _ _))
  ·have hd : decide ((i : Int) < 8) = false := dF (by omega)
   (repeat (with_reducible first | ((first | apply bindP_intro | apply bind2_intro); (focus (first | rfl | (simp only [walkS, reduceIte, hd] <;> rfl)))) | apply cond_t | apply cond_f))
   unfold F62_j0
   rw [List.take_of_length_le (by omega)]
   exact hK H k0
theorem text_c {n lim : Nat} (t : Tok) (hn : 10 ≤ n) : ∃ v H', Ahs.runT ap (n + 1) lim (.fn 62) [.agg (encB t.1)] H = some (v, H') ∧ v = .str t.1 ∧ Keeps2 H H' := by
 refine F62_run a62 ?_
 unfold F62
 have k1 : Keeps2 H (H.push (.cells (encB t.1))) := .push _ _
 (repeat (with_reducible first | ((first | apply bindP_intro | apply bind2_intro); (focus (first | rfl | (simp only [walkS, reduceIte, tok_cells, encB_one] <;> rfl)))) | apply cond_t | apply cond_f))
 exact text_loop (H0 := H.push (.cells (encB t.1))) (t := t) (cells_push_new _ _) (fun H' k => ⟨rfl, k1.trans k⟩) n 0 _ (by omega) (Nat.zero_le _) (.refl _)
theorem find_loop {n lim N : Nat} {K : AVal → Heap → Prop} {bx br s : Nat} {vT vP : AVal} {l : List Ten} {H : Heap} {z : List AVal} (hb : H.cells bx = some [vT, vP]) (hs : Sl H 5 vT (l.map rowT)) (hl : l.length ≤ 1000) (hr : H.cells br = some z) (hz : z.length = 4) (hlim : lim ≤ br) {Q : Quo × Bool}
  (hK : K (.tup [.agg (encQ Q.1), .bool Q.2]) (H.set br (.cells (encQ Q.1)))) :
  ∀ (q i : Nat), l.length < q + i → i ≤ l.length → lkT (l.drop i) s = Q → F32_l0 (Ahs.runT ap n) lim N K q (.int .u8 (s : Nat)) (.ptr (some (bx, 0))) (.ptr (some (br, 0))) (.int .i64 (i : Int)) H
 | 0, i, h1, h2, _ => by exfalso; omega
 | q + 1, i, hq, hi, hQ => by
  show F32_s0 _ _ _ _ (F32_l0 _ _ _ _ q) _ _ _ _ _
  unfold F32_s0
  have hld : aload H none (.ptr (some (bx, 0))) = some vT := by rw [aload_one hb]; rfl
  have hal : alen false vT = some (.int .i64 (l.length : Int)) := by have := hs.len; rw [List.length_map] at this; exact this
  have hst : ∀ q : Quo, astore lim H 4 (.ptr (some (br, 0))) (.agg (encQ q)) = some (H.set br (.cells (encQ q))) := fun q => by
   rw [astore_at (n := 4) (o := 0) (x := .agg (encQ q)) hr hlim rfl (by omega) rfl, put_all (by rw [hz]; rfl)]
   rfl
  have hl4 : ∀ q : Quo, aload (H.set br (.cells (encQ q))) (some 4) (.ptr (some (br, 0))) = some (.agg (encQ q)) := fun q => aload_all (cells_set_same (Heap.cells_lt hr)) rfl
  by_cases hil : i < l.length
  ·have hd : decide ((i : Int) < (l.length : Int)) = true := dT (by omega)
   have hx : l[i]? = some l[i] := List.getElem?_eq_getElem hil
   have hxr : (l.map rowT)[i]? = some (rowT l[i]) := by rw [List.getElem?_map, hx]; rfl
   have had := hs.addr (k := .i64) (i := i) (by rw [List.length_map]; exact hil)
   have hf0 : faddrO 0 (Ahs.slot vT (i * 5)) = some (Ahs.slot vT (i * 5)) := faddr_slot hs (by rw [List.length_map]; omega) (i * 5) 0
   have hf1 := faddr_slot hs (by rw [List.length_map]; omega) (i * 5) 1
   have h0 : aload H none (Ahs.slot vT (i * 5)) = some (.int .u8 (l[i].1 : Int)) := hs.loadf hxr (f := 0) (by omega)
   have h1 : aload H (some 4) (Ahs.slot vT (i * 5 + 1)) = some (.agg (encQ l[i].2)) := loadn hs hxr (f := 1) (k := 4) (by omega)
   have hdrop : l.drop i = l[i] :: l.drop (i + 1) := List.drop_eq_getElem_cons hil
   rw [hdrop] at hQ
   unfold lkT at hQ
   by_cases he : l[i].1 = s
   ·have e1 : ((l[i].1 : Int) == (s : Int)) = true := eqT (by omega)
    rw [if_pos he] at hQ
    subst hQ
    (repeat (with_reducible first | ((first | apply bindP_intro | apply bind2_intro); (focus (first | rfl | (simp only [walkS, reduceIte, hld, hal, hd, had, hf0, h0, e1, hf1, h1, hst, hl4] <;> rfl)))) | apply cond_t | apply cond_f))
    exact hK
   ·have e1 : ((l[i].1 : Int) == (s : Int)) = false := eqF (by omega)
    rw [if_neg he] at hQ
    have hi1 : IntKind.i64.wrap ((i : Int) + 1) = ((i + 1 : Nat) : Int) := i64_succ (by omega)
    (repeat (with_reducible first | ((first | apply bindP_intro | apply bind2_intro); (focus (first | rfl | (simp only [walkS, reduceIte, hld, hal, hd, had, hf0, h0, e1, hi1] <;> rfl)))) | apply cond_t | apply cond_f))
    exact find_loop hb hs hl hr hz hlim hK q (i + 1) (by omega) (by omega) hQ
  ·have hd : decide ((i : Int) < (l.length : Int)) = false := dF (by omega)
   rw [List.drop_eq_nil_of_le (by omega)] at hQ
   have hQ : (noQ, false) = Q := hQ
   subst hQ
   have hz0 : buildO z547173 [] = some (.agg (encQ noQ)) := rfl
   (repeat (with_reducible first | ((first | apply bindP_intro | apply bind2_intro); (focus (first | rfl | (simp only [walkS, reduceIte, hld, hal, hd] <;> rfl)))) | apply cond_t | apply cond_f))
   unfold F32_j0
   (repeat (with_reducible first | ((first | apply bindP_intro | apply bind2_intro); (focus (first | rfl | (simp only [walkS, reduceIte, hz0, hst, hl4] <;> rfl)))) | apply cond_t | apply cond_f))
   exact hK
theorem find_c {n lim s : Nat} {v : AVal} (h : R20 H v C) (hlim : lim ≤ H.next) (hs : s < 256) (hn : 10 ≤ n) : ∃ r H', Ahs.runT ap (n + 1) lim (.fn 32) [v, .int .u8 (s : Nat)] H = some (r, H') ∧ r = .tup [.agg (encQ (quotaC C s).1), .bool (quotaC C s).2] ∧ Keeps2 H H' := by
 obtain ⟨vT, vP, rfl, hT, hP, hpl⟩ := h.ex
 refine F32_run a32 ?_
 unfold F32
 have hc : (AVal.agg [vT, vP]).cells = [vT, vP] := rfl
 have ho : ([vT, vP].all fun v => v.one) = true := by simp [hT.one.1, hP.one.1]
 have k1 : Keeps2 H (H.push (.cells [vT, vP])) := .push _ _
 have n1 : (H.push (.cells [vT, vP])).next = H.next + 1 := Heap.next_push _ _
 have k2 : Keeps2 (H.push (.cells [vT, vP])) ((H.push (.cells [vT, vP])).push (.cells z547173)) := .push _ _
 have hlen := tenL_len C
 (repeat (with_reducible first | ((first | apply bindP_intro | apply bind2_intro); (focus (first | rfl | (simp only [walkS, reduceIte, hc, ho] <;> rfl)))) | apply cond_t | apply cond_f))
 refine find_loop (l := tenL C) (Q := quotaC C s) (z := z547173) (k2.cells (cells_push_new H _)) (hT.keep (k1.trans k2)).sl (by omega) (cells_push_new _ _) rfl (by omega) ⟨rfl, (k1.trans k2).setNew (by omega) _⟩ n 0 (by omega) (Nat.zero_le _) (by rw [List.drop_zero, lkT_ten])
theorem who_loop {n lim N : Nat} {K : AVal → Heap → Prop} {bx bt : Nat} {vT vP : AVal} {fs : List Ent} {H0 : Heap} {t : Tok} (hn : 11 ≤ n) (hb : H0.cells bx = some [vT, vP]) (hbp : ([vT, vP].all plainV) = true) (hs : Fz H0 3 vP (fs.map rowP)) (hpl : ∀ b, slBlk vP = some b → ∃ cs, H0.cells b = some cs ∧ cs.all plainV = true) (ht : H0.cells bt = some (encB t.1)) (hl : fs.length ≤ 1000) {Q : Nat × Nat × Bool}
  (hK : ∀ H', Keeps2 H0 H' → K (.tup [.int .u8 (Q.1 : Nat), .int .u8 (Q.2.1 : Nat), .bool Q.2.2]) H') :
  ∀ (q i : Nat) (H : Heap), fs.length < q + i → i ≤ fs.length → whoL (fs.drop i) t = Q → Keeps2 H0 H → F31_l0 (Ahs.runT ap n) lim N K q (.ptr (some (bx, 0))) (.ptr (some (bt, 0))) (.int .i64 (i : Int)) H
 | 0, i, H, h1, h2, _, _ => by exfalso; omega
 | q + 1, i, H, hq, hi, hQ, k0 => by
  show F31_s0 _ _ _ _ (F31_l0 _ _ _ _ q) _ _ _ _
  unfold F31_s0
  have hld : aload H none (.ptr (some (bx, 1))) = some vP := by rw [aload_one (k0.cells hb)]; rfl
  have hsl := (hs.keep k0).sl
  have hal : alen false vP = some (.int .i64 (fs.length : Int)) := by have := hsl.len; rw [List.length_map] at this; exact this
  by_cases hil : i < fs.length
  ·have hd : decide ((i : Int) < (fs.length : Int)) = true := dT (by omega)
   have hx : fs[i]? = some fs[i] := List.getElem?_eq_getElem hil
   have hxr : (fs.map rowP)[i]? = some (rowP fs[i]) := by rw [List.getElem?_map, hx]; rfl
   have had := hsl.addr (k := .i64) (i := i) (by rw [List.length_map]; exact hil)
   have hf0 : faddrO 0 (Ahs.slot vP (i * 3)) = some (Ahs.slot vP (i * 3)) := faddr_slot hsl (by rw [List.length_map]; omega) (i * 3) 0
   have hf1 := faddr_slot hsl (by rw [List.length_map]; omega) (i * 3) 1
   have hf2 := faddr_slot hsl (by rw [List.length_map]; omega) (i * 3) 2
   have h0 : aload H none (Ahs.slot vP (i * 3)) = some (.str fs[i].1.1) := hsl.loadf hxr (f := 0) (by omega)
   have htl : aload H (some 8) (.ptr (some (bt, 0))) = some (.agg (encB t.1)) := aload_all (k0.cells ht) (by rw [encB_len, t.2])
   obtain ⟨n', hn'⟩ : ∃ n', n = n' + 1 := ⟨n - 1, by omega⟩
   obtain ⟨_, H1, r1, rfl, k1⟩ := text_c (H := H) (n := n') (lim := lim) t (by omega)
   rw [← hn'] at r1
   have hkept : keptG none H H1 [.ptr (some (bx, 1)), Ahs.slot vP (i * 3)] := keptG_of k1 fun w hw b hb' => by
    simp only [List.mem_cons, List.not_mem_nil, or_false] at hw
    rcases hw with rfl | rfl
    ·simp only [blkOf, Option.some.injEq] at hb'
     subst hb'
     exact ⟨_, k0.cells hb, hbp⟩
    ·obtain ⟨cs, q1, q2⟩ := hpl b (blk_slot hb')
     exact ⟨cs, k0.cells q1, q2⟩
   have hdrop : fs.drop i = fs[i] :: fs.drop (i + 1) := List.drop_eq_getElem_cons hil
   rw [hdrop] at hQ
   unfold whoL at hQ
   by_cases he : fs[i].1 = t
   ·have e1 : (fs[i].1.1 == t.1) = true := by rw [he]; simp
    rw [if_pos he] at hQ
    subst hQ
    have hld1 := aload_keep k1 hld
    have h1 : aload H1 none (Ahs.slot vP (i * 3 + 1)) = some (.int .u8 (fs[i].2.1 : Int)) := (hsl.keep k1).loadf hxr (f := 1) (by omega)
    have h2 : aload H1 none (Ahs.slot vP (i * 3 + 2)) = some (.int .u8 (fs[i].2.2 : Int)) := (hsl.keep k1).loadf hxr (f := 2) (by omega)
    (repeat (with_reducible first | ((first | apply bindP_intro | apply bind2_intro); (focus (first | rfl | (simp only [walkS, reduceIte, hld, hal, hd, had, hf0, h0, htl, r1] <;> rfl)))) | apply cond_t | apply cond_f))
    refine ⟨hkept, ?_⟩
    (repeat (with_reducible first | ((first | apply bindP_intro | apply bind2_intro); (focus (first | rfl | (simp only [walkS, reduceIte, e1, hld1, had, hf1, h1, hf2, h2] <;> rfl)))) | apply cond_t | apply cond_f))
    exact hK H1 (k0.trans k1)
   ·have e1 : (fs[i].1.1 == t.1) = false := by
     have : ¬ fs[i].1.1 = t.1 := fun e => he (Subtype.ext e)
     simpa using this
    rw [if_neg he] at hQ
    have hi1 : IntKind.i64.wrap ((i : Int) + 1) = ((i + 1 : Nat) : Int) := i64_succ (by omega)
    (repeat (with_reducible first | ((first | apply bindP_intro | apply bind2_intro); (focus (first | rfl | (simp only [walkS, reduceIte, hld, hal, hd, had, hf0, h0, htl, r1] <;> rfl)))) | apply cond_t | apply cond_f))
    refine ⟨hkept, ?_⟩
    (repeat (with_reducible first | ((first | apply bindP_intro | apply bind2_intro); (focus (first | rfl | (simp only [walkS, reduceIte, e1, hi1] <;> rfl)))) | apply cond_t | apply cond_f))
    exact who_loop hn hb hbp hs hpl ht hl hK q (i + 1) H1 (by omega) (by omega) hQ (k0.trans k1)
  ·have hd : decide ((i : Int) < (fs.length : Int)) = false := dF (by omega)
   rw [List.drop_eq_nil_of_le (by omega)] at hQ
   have hQ : (0, 0, false) = Q := hQ
   subst hQ
   (repeat (with_reducible first | ((first | apply bindP_intro | apply bind2_intro); (focus (first | rfl | (simp only [walkS, reduceIte, hld, hal, hd] <;> rfl)))) | apply cond_t | apply cond_f))
   unfold F31_j0
   exact hK H k0
theorem fz_plain {sz : Nat} {v : AVal} {xs : List (List AVal)} (h : Fz H sz v xs) : plainV v = true := by
 rcases h.at' with ⟨rfl, _⟩ | ⟨b, o, c, cs, rfl, _⟩ <;> rfl
theorem rwho_c {n lim : Nat} {v : AVal} (h : R20 H v C) (hl : C.fs.length ≤ 1000) (hn : 1011 ≤ n) (t : Tok) : ∃ r H', Ahs.runT ap (n + 1) lim (.fn 31) [v, .agg (encB t.1)] H = some (r, H') ∧ r = .tup [.int .u8 ((whoC C t).1 : Int), .int .u8 ((whoC C t).2.1 : Int), .bool (whoC C t).2.2] ∧ Keeps2 H H' := by
 obtain ⟨vT, vP, rfl, hT, hP, hpl⟩ := h.ex
 refine F31_run a31 ?_
 unfold F31
 have hc : (AVal.agg [vT, vP]).cells = [vT, vP] := rfl
 have ho : ([vT, vP].all fun v => v.one) = true := by simp [hT.one.1, hP.one.1]
 have k1 : Keeps2 H (H.push (.cells [vT, vP])) := .push _ _
 have k2 : Keeps2 (H.push (.cells [vT, vP])) ((H.push (.cells [vT, vP])).push (.cells (encB t.1))) := .push _ _
 have k12 := k1.trans k2
 (repeat (with_reducible first | ((first | apply bindP_intro | apply bind2_intro); (focus (first | rfl | (simp only [walkS, reduceIte, hc, ho, tok_cells, encB_one] <;> rfl)))) | apply cond_t | apply cond_f))
 exact who_loop (fs := C.fs) (Q := whoC C t) (by omega) (k2.cells (cells_push_new H _)) (by simp [fz_plain hT, fz_plain hP]) (hP.keep k12) (fun b hb => by obtain ⟨cs, q1, q2⟩ := hpl b hb; exact ⟨cs, k12.cells q1, q2⟩) (cells_push_new _ _) hl (fun H' k => ⟨rfl, k12.trans k⟩) n 0 _ (by omega) (Nat.zero_le _) (by rw [List.drop_zero, whoL_who]) (.refl _)
end
def insG (x : Ten) : Bool → List Ten → List Ten
 | true, l => l
 | false, [] => [x]
 | false, y :: ys => if x.1 < y.1 then x :: y :: ys else y :: insG x false ys
def addL (s : Quo) (l : List Ten) : Quo := l.foldl (fun s y => addQ s y.2) s
theorem insG_len (x : Ten) : ∀ l, (insG x false l).length = l.length + 1
 | [] => rfl
 | y :: ys => by
  unfold insG
  split
  ·rfl
  ·rw [List.length_cons, insG_len x ys]; rfl
theorem ten_set {C : PCat} {s : Nat} {q : Quo} (hs : s < 4) (h0 : ¬ 0 < (C.q s).k) (hq : 0 < q.k) : insG (s, q) false (tenL C) = tenL (C.setQ s q) := by
 unfold tenL
 match s, hs, h0 with
 | 0, _, h0 =>
  have h0 : ¬ 0 < C.q0.k := h0
  by_cases h1 : 0 < C.q1.k <;> by_cases h2 : 0 < C.q2.k <;> by_cases h3 : 0 < C.q3.k <;>
   simp [PCat.setQ, PCat.q, h0, h1, h2, h3, hq, List.filter_cons, insG]
 | 1, _, h0 =>
  have h0 : ¬ 0 < C.q1.k := h0
  by_cases h1 : 0 < C.q0.k <;> by_cases h2 : 0 < C.q2.k <;> by_cases h3 : 0 < C.q3.k <;>
   simp [PCat.setQ, PCat.q, h0, h1, h2, h3, hq, List.filter_cons, insG]
 | 2, _, h0 =>
  have h0 : ¬ 0 < C.q2.k := h0
  by_cases h1 : 0 < C.q0.k <;> by_cases h2 : 0 < C.q1.k <;> by_cases h3 : 0 < C.q3.k <;>
   simp [PCat.setQ, PCat.q, h0, h1, h2, h3, hq, List.filter_cons, insG]
 | 3, _, h0 =>
  have h0 : ¬ 0 < C.q3.k := h0
  by_cases h1 : 0 < C.q0.k <;> by_cases h2 : 0 < C.q1.k <;> by_cases h3 : 0 < C.q2.k <;>
   simp [PCat.setQ, PCat.q, h0, h1, h2, h3, hq, List.filter_cons, insG]
theorem ten_sum {C : PCat} (hok : ∀ i, i < 4 → fitQ (C.q i)) (q : Quo) : (addL q (tenL C)).k = (sumQ C 4 0 q).k ∧ (addL q (tenL C)).b = (sumQ C 4 0 q).b ∧ (addL q (tenL C)).r = (sumQ C 4 0 q).r := by
 have z : ∀ i, i < 4 → ¬ 0 < (C.q i).k → C.q i = noQ := fun i hi h => (hok i hi).zero h
 have z0 := z 0 (by omega)
 have z1 := z 1 (by omega)
 have z2 := z 2 (by omega)
 have z3 := z 3 (by omega)
 simp only [PCat.q] at z0 z1 z2 z3
 simp only [sum_k, sum_b, sum_r]
 unfold tenL addL
 by_cases h0 : 0 < C.q0.k <;> by_cases h1 : 0 < C.q1.k <;> by_cases h2 : 0 < C.q2.k <;> by_cases h3 : 0 < C.q3.k <;>
  simp [PCat.q, h0, h1, h2, h3, List.filter_cons, addQ] <;> simp_all [noQ]
theorem tenL_fs (C : PCat) (fs : List Ent) : tenL { C with fs := fs } = tenL C := rfl
section
variable {n lim N : Nat} {Hb : Heap} {C : PCat}
def Out20 (H0 H' : Heap) (v : AVal) (o : Int × PCat) : Prop := (∃ v', v = .tup [v', .int .u8 o.1] ∧ R20 H' v' o.2) ∧ Keeps2 H0 H'
theorem ret_same {K : AVal → Heap → Prop} {H0 H : Heap} {bx br : Nat} {vT vP : AVal} {z : List AVal} (hx : H.cells bx = some [vT, vP]) (hr : H.cells br = some z) (hz : z.length = 2) (hlim : lim ≤ br) (h1 : vT.one = true ∧ vT.cells = [vT]) (h2 : vP.one = true ∧ vP.cells = [vP]) :
  aload H (some 2) (.ptr (some (bx, 0))) = some (.agg [vT, vP]) ∧ astore lim H 2 (.ptr (some (br, 0))) (.agg [vT, vP]) = some (H.set br (.cells [vT, vP])) ∧ aload (H.set br (.cells [vT, vP])) (some 2) (.ptr (some (br, 0))) = some (.agg [vT, vP]) := by
 refine ⟨aload_all hx rfl, ?_, aload_all (cells_set_same (Heap.cells_lt hr)) rfl⟩
 rw [astore_at (n := 2) (o := 0) (x := .agg [vT, vP]) hr hlim rfl (by omega) (by show ([vT, vP].all fun v => v.one) = true; simp [h1.1, h2.1]), put_all (by rw [hz]; rfl)]
 rfl
theorem rcreate_end {K : AVal → Heap → Prop} {H0 : Heap} {bx br s : Nat} {vT vP vo : AVal} {bo : Nat} {q S : Quo} {H : Heap} {z : List AVal} (hx : H.cells bx = some [vT, vP]) (hr : H.cells br = some z) (hz : z.length = 2) (hne : bx ≠ br) (hlx : lim ≤ bx) (hlr : lim ≤ br)
  (hT : Fz H 5 vT ((tenL C).map rowT)) (hP : Fz H 3 vP (C.fs.map rowP)) (hpl : ∀ b, slBlk vP = some b → ∃ cs, H.cells b = some cs ∧ cs.all plainV = true) (ho : Own H 5 vo ((tenL (C.setQ s q)).map rowT) bo)
  (hnew : ∀ b, slBlk vT = some b ∨ slBlk vP = some b ∨ b = bo → b ≠ bx ∧ b ≠ br) (k0 : Keeps2 H0 H) (gx : H0.next ≤ bx) (gr : H0.next ≤ br)
  (hK : ∀ v H', Out20 H0 H' v (if 48 < S.k ∨ 1536 < S.b ∨ 200 < S.r then (9, C) else (0, C.setQ s q)) → K v H') :
  F61_j0 (Ahs.runT ap n) lim N K (.ptr (some (bx, 0))) (.ptr (some (br, 0))) (.int .i64 S.k) (.int .i64 S.b) (.int .i64 S.r) vo H := by
 unfold F61_j0
 have oT := hT.one
 have oP := hP.one
 obtain ⟨r1, r2, r3⟩ := ret_same (K := K) (H0 := H0) (lim := lim) hx hr hz hlr oT oP
 have same : (48 < S.k ∨ 1536 < S.b ∨ 200 < S.r) → K (.tup [.agg [vT, vP], .int .u8 9]) (H.set br (.cells [vT, vP])) := fun h => by
  refine hK _ _ ?_
  rw [if_pos h]
  have fr : Fram (fun c => c = br) H (H.set br (.cells [vT, vP])) := Fram.set (S := fun c => c = br) rfl
  refine ⟨⟨_, rfl, vT, vP, rfl, hT.frame fr fun b hb e => (hnew b (.inl hb)).2 e, hP.frame fr fun b hb e => (hnew b (.inr (.inl hb))).2 e, fun b hb => ?_⟩, k0.setNew gr _⟩
  obtain ⟨cs, q1, q2⟩ := hpl b hb
  exact ⟨cs, cells_set_other q1 (hnew b (.inr (.inl hb))).2, q2⟩
 by_cases g1 : 48 < S.k
 ·have e1 : decide (48 < S.k) = true := dT g1
  (repeat (with_reducible first | ((first | apply bindP_intro | apply bind2_intro); (focus (first | rfl | (simp only [walkS, reduceIte, e1, r1, r2, r3] <;> rfl)))) | apply cond_t | apply cond_f))
  exact same (.inl g1)
 have e1 : decide (48 < S.k) = false := dF g1
 by_cases g2 : 1536 < S.b
 ·have e2 : decide (1536 < S.b) = true := dT g2
  (repeat (with_reducible first | ((first | apply bindP_intro | apply bind2_intro); (focus (first | rfl | (simp only [walkS, reduceIte, e1, e2, r1, r2, r3] <;> rfl)))) | apply cond_t | apply cond_f))
  exact same (.inr (.inl g2))
 have e2 : decide (1536 < S.b) = false := dF g2
 by_cases g3 : 200 < S.r
 ·have e3 : decide (200 < S.r) = true := dT g3
  (repeat (with_reducible first | ((first | apply bindP_intro | apply bind2_intro); (focus (first | rfl | (simp only [walkS, reduceIte, e1, e2, e3, r1, r2, r3] <;> rfl)))) | apply cond_t | apply cond_f))
  exact same (.inr (.inr g3))
 have e3 : decide (200 < S.r) = false := dF g3
 have oO := ho.one
 have st1 : astore lim H 1 (.ptr (some (bx, 0))) vo = some (H.set bx (.cells [vo, vP])) := astore_cell hx hlx oO.2 oO.1 (by show 0 < 2; omega) rfl
 have x1 : (H.set bx (.cells [vo, vP])).cells bx = some [vo, vP] := cells_set_same (Heap.cells_lt hx)
 have rr1 : (H.set bx (.cells [vo, vP])).cells br = some z := cells_set_other hr (Ne.symm hne)
 obtain ⟨s1, s2, s3⟩ := ret_same (K := K) (H0 := H0) (lim := lim) x1 rr1 hz hlr ⟨oO.1, oO.2⟩ oP
 (repeat (with_reducible first | ((first | apply bindP_intro | apply bind2_intro); (focus (first | rfl | (simp only [walkS, reduceIte, e1, e2, e3, st1, s1, s2, s3] <;> rfl)))) | apply cond_t | apply cond_f))
 refine hK _ _ ?_
 rw [if_neg (by omega)]
 have fr1 : Fram (fun c => c = bx ∨ c = br) H (H.set bx (.cells [vo, vP])) := Fram.set (S := fun c => c = bx ∨ c = br) (.inl rfl)
 have fr : Fram (fun c => c = bx ∨ c = br) H ((H.set bx (.cells [vo, vP])).set br (.cells [vo, vP])) := fr1.trans (Fram.set (S := fun c => c = bx ∨ c = br) (.inr rfl)) fun _ _ e => e
 have hn2 : ∀ b, slBlk vT = some b ∨ slBlk vP = some b ∨ b = bo → ¬ (b = bx ∨ b = br) := fun b hb e => by
  obtain ⟨q1, q2⟩ := hnew b hb
  rcases e with e | e
  ·exact q1 e
  ·exact q2 e
 refine ⟨⟨_, rfl, vo, vP, rfl, ?_, ?_, fun b hb => ?_⟩, (k0.setNew gx _).setNew gr _⟩
 ·exact Own.fz (ho.frame fr (hn2 bo (.inr (.inr rfl))))
 ·rw [setQ_fs]
  exact hP.frame fr fun b hb => hn2 b (.inr (.inl hb))
 ·obtain ⟨cs, q1, q2⟩ := hpl b hb
  exact ⟨cs, fr.cells q1 (hn2 b (.inr (.inl hb))), q2⟩
theorem rcreate_loop {K : AVal → Heap → Prop} {H0 : Heap} {bx bq br s : Nat} {vT vP : AVal} {q S : Quo} {z : List AVal} (hok : OkC C) (hx : Hb.cells bx = some [vT, vP]) (hq : Hb.cells bq = some (encQ q)) (hr : Hb.cells br = some z) (hz : z.length = 2) (hne : bx ≠ br)
  (hT : Fz Hb 5 vT ((tenL C).map rowT)) (hP : Fz Hb 3 vP (C.fs.map rowP)) (hpl : ∀ b, slBlk vP = some b → ∃ cs, Hb.cells b = some cs ∧ cs.all plainV = true)
  (hnew : ∀ b, slBlk vT = some b ∨ slBlk vP = some b → b < H0.next) (k0 : Keeps2 H0 Hb) (gx : H0.next ≤ bx) (gr : H0.next ≤ br) (hlim : lim ≤ H0.next) (hF : insG (s, q) false (tenL C) = tenL (C.setQ s q))
  (hS : (addL q (tenL C)).k = S.k ∧ (addL q (tenL C)).b = S.b ∧ (addL q (tenL C)).r = S.r)
  (hK : ∀ v H', Out20 H0 H' v (if 48 < S.k ∨ 1536 < S.b ∨ 200 < S.r then (9, C) else (0, C.setQ s q)) → K v H') :
  ∀ (f i : Nat) (cur : Quo) (done : Bool) (vo : AVal) (bo : Nat) (out : List Ten) (H : Heap), (tenL C).length < f + i → i ≤ (tenL C).length → out.length ≤ i + 1 → Keeps2 Hb H → Own H 5 vo (out.map rowT) bo → Hb.next ≤ bo → out ++ insG (s, q) done ((tenL C).drop i) = tenL (C.setQ s q) →
   addL cur ((tenL C).drop i) = addL q (tenL C) → (0 ≤ cur.k ∧ cur.k ≤ 16 + 16 * i) → (0 ≤ cur.b ∧ cur.b ≤ 512 + 512 * i) → (0 ≤ cur.r ∧ cur.r ≤ 100 + 100 * i) →
   F61_l0 (Ahs.runT ap n) lim N K f (.int .u8 (s : Nat)) (.ptr (some (bx, 0))) (.ptr (some (bq, 0))) (.ptr (some (br, 0))) (.int .i64 cur.k) (.int .i64 cur.b) (.int .i64 cur.r) vo (.bool done) (.int .i64 (i : Int)) H
 | 0, i, cur, done, vo, bo, out, H, h1, h2, _, _, _, _, _, _, _, _, _ => by exfalso; omega
 | f + 1, i, cur, done, vo, bo, out, H, hf, hi, hol, kb, ho, hbo, hout, hcur, b1, b2, b3 => by
  show F61_s0 _ _ _ _ (F61_l0 _ _ _ _ f) _ _ _ _ _ _ _ _ _ _ _
  unfold F61_s0
  have hlen := tenL_len C
  have hsl := (hT.keep kb).sl
  have hld : aload H none (.ptr (some (bx, 0))) = some vT := by rw [aload_one (kb.cells hx)]; rfl
  have hal : alen false vT = some (.int .i64 ((tenL C).length : Int)) := by have := hsl.len; rw [List.length_map] at this; exact this
  have kbn := kb.next
  have k0n := k0.next
  have row : ∀ (G : Heap) (vo : AVal) (bo : Nat) (out : List Ten) (x : Ten), Keeps2 Hb G → Own G 5 vo (out.map rowT) bo → Hb.next ≤ bo → out.length ≤ 100 →
    ∃ v' G' b', aappend lim (G.push (.cells (rowT x))) ze67900 40 false vo (.sl (some (G.next, 0)) 1 (.ex 1)) = some (v', G') ∧ Own G' 5 v' ((out ++ [x]).map rowT) b' ∧ Hb.next ≤ b' ∧ Keeps2 Hb G' := fun G vo bo out x kG oG bG hl => by
   obtain ⟨v', G', b', q1, q2, q3, q4⟩ := push_row (lim := lim) (sz := 5) (bytes := 40) (zero := ze67900) oG bG (by omega) kG rfl (by decide) (rowT_ok x) (by rw [List.length_map]; unfold room; omega) (by rw [List.length_map]; unfold room; omega)
   exact ⟨v', G', b', q1, by rw [List.map_append]; exact q2, q3, q4⟩
  have fin : ∀ (G : Heap) (vo : AVal) (bo : Nat), Keeps2 Hb G → Own G 5 vo ((tenL (C.setQ s q)).map rowT) bo → Hb.next ≤ bo → addL q (tenL C) = cur → F61_j0 (Ahs.runT ap n) lim N K (.ptr (some (bx, 0))) (.ptr (some (br, 0))) (.int .i64 cur.k) (.int .i64 cur.b) (.int .i64 cur.r) vo G := fun G vo bo kG oG bG hcu => by
   have lx := Heap.cells_lt hx
   have lr := Heap.cells_lt hr
   rw [← hcu, hS.1, hS.2.1, hS.2.2]
   refine rcreate_end (S := S) (H0 := H0) (kG.cells hx) (kG.cells hr) hz hne (by omega) (by omega) (hT.keep kG) (hP.keep kG) (fun b hb => by obtain ⟨cs, q1, q2⟩ := hpl b hb; exact ⟨cs, kG.cells q1, q2⟩) oG (fun b hb => ?_) (k0.trans kG) gx gr hK
   rcases hb with hb | hb | hb
   ·have := hnew b (.inl hb); omega
   ·have := hnew b (.inr hb); omega
   ·omega
  by_cases hil : i < (tenL C).length
  ·have hd : decide ((i : Int) < ((tenL C).length : Int)) = true := dT (by omega)
   obtain ⟨y, hy⟩ : ∃ y, y = (tenL C)[i] := ⟨_, rfl⟩
   have hx5 : (tenL C)[i]? = some y := by rw [hy]; exact List.getElem?_eq_getElem hil
   have hmem := tenL_mem (List.mem_of_getElem? hx5)
   have hfy : fitQ y.2 := by rw [hmem.2.1]; exact hok.fit _ hmem.1
   have hle := hfy.le
   have hxr : ((tenL C).map rowT)[i]? = some (rowT y) := by rw [List.getElem?_map, hx5]; rfl
   have hml : i < ((tenL C).map rowT).length := by rw [List.length_map]; exact hil
   have had := hsl.addr (k := .i64) (i := i) hml
   have a0 : faddrO 0 (Ahs.slot vT (i * 5)) = some (Ahs.slot vT (i * 5)) := faddr_slot hsl (by omega) (i * 5) 0
   have a1 : faddrO 1 (Ahs.slot vT (i * 5)) = some (Ahs.slot vT (i * 5 + 1)) := faddr_slot hsl (by omega) (i * 5) 1
   have a10 : faddrO 0 (Ahs.slot vT (i * 5 + 1)) = some (Ahs.slot vT (i * 5 + 1)) := faddr_slot hsl (by omega) (i * 5 + 1) 0
   have a11 : faddrO 1 (Ahs.slot vT (i * 5 + 1)) = some (Ahs.slot vT (i * 5 + 1 + 1)) := faddr_slot hsl (by omega) (i * 5 + 1) 1
   have a12 : faddrO 2 (Ahs.slot vT (i * 5 + 1)) = some (Ahs.slot vT (i * 5 + 1 + 2)) := faddr_slot hsl (by omega) (i * 5 + 1) 2
   have l0 : aload H none (Ahs.slot vT (i * 5)) = some (.int .u8 (y.1 : Int)) := hsl.loadf hxr (f := 0) (by omega)
   have l1 : aload H none (Ahs.slot vT (i * 5 + 1)) = some (.int .i64 y.2.k) := hsl.loadf hxr (f := 1) (by omega)
   have l2 : aload H none (Ahs.slot vT (i * 5 + 1 + 1)) = some (.int .i64 y.2.b) := hsl.loadf hxr (f := 2) (by omega)
   have l3 : aload H none (Ahs.slot vT (i * 5 + 1 + 2)) = some (.int .i64 y.2.r) := hsl.loadf hxr (f := 3) (by omega)
   have w1 : IntKind.i64.wrap (cur.k + y.2.k) = cur.k + y.2.k := wrap_i64 (by omega) (by omega)
   have w2 : IntKind.i64.wrap (cur.b + y.2.b) = cur.b + y.2.b := wrap_i64 (by omega) (by omega)
   have w3 : IntKind.i64.wrap (cur.r + y.2.r) = cur.r + y.2.r := wrap_i64 (by omega) (by omega)
   have hi1 : IntKind.i64.wrap ((i : Int) + 1) = ((i + 1 : Nat) : Int) := i64_succ (by omega)
   have hfr := fill_row (z := ze67900) (sz := 5) rfl (rowT_ok y).1
   have hdrop : (tenL C).drop i = y :: (tenL C).drop (i + 1) := by rw [hy]; exact List.drop_eq_getElem_cons hil
   rw [hdrop] at hout hcur
   have hcur2 : addL (addQ cur y.2) ((tenL C).drop (i + 1)) = addL q (tenL C) := hcur
   have next : ∀ (G : Heap) (vo : AVal) (bo : Nat) (out : List Ten) (done : Bool), Keeps2 Hb G → Own G 5 vo (out.map rowT) bo → Hb.next ≤ bo → out.length ≤ i + 1 → (out ++ [y]) ++ insG (s, q) done ((tenL C).drop (i + 1)) = tenL (C.setQ s q) →
     F61_j2 (Ahs.runT ap n) lim N K (F61_l0 (Ahs.runT ap n) lim N K f) (.int .u8 (s : Nat)) (.ptr (some (bx, 0))) (.ptr (some (bq, 0))) (.ptr (some (br, 0))) (.int .i64 (cur.k + y.2.k)) (.int .i64 (cur.b + y.2.b)) (.int .i64 (cur.r + y.2.r)) vo (.bool done) (.int .i64 (i : Int)) G := fun G vo bo out done kG oG bG hl he => by
    unfold F61_j2
    have hslG := (hT.keep kG).sl
    have hldG : aload G none (.ptr (some (bx, 0))) = some vT := by rw [aload_one (kG.cells hx)]; rfl
    have hadG := hslG.addr (k := .i64) (i := i) hml
    have l5 : aload G (some 5) (Ahs.slot vT (i * 5)) = some (.agg (rowT y)) := hslG.load hxr
    obtain ⟨v', G', b', q1, q2, q3, q4⟩ := row G vo bo out y kG oG bG (by omega)
    (repeat (with_reducible first | ((first | apply bindP_intro | apply bind2_intro); (focus (first | rfl | (simp only [walkS, reduceIte, hldG, hadG, l5, hfr, q1, hi1] <;> rfl)))) | apply cond_t | apply cond_f))
    refine rcreate_loop hok hx hq hr hz hne hT hP hpl hnew k0 gx gr hlim hF hS hK f (i + 1) (addQ cur y.2) done v' b' (out ++ [y]) G' (by omega) (by omega) (by rw [List.length_append]; simp; omega) q4 q2 q3 he hcur2 ?_ ?_ ?_
    ·show 0 ≤ cur.k + y.2.k ∧ cur.k + y.2.k ≤ _; omega
    ·show 0 ≤ cur.b + y.2.b ∧ cur.b + y.2.b ≤ _; omega
    ·show 0 ≤ cur.r + y.2.r ∧ cur.r + y.2.r ≤ _; omega
   have hlq : (insG (s, q) false (tenL C)).length = (tenL C).length + 1 := insG_len _ _
   cases done with
   | true =>
    have he : (out ++ [y]) ++ insG (s, q) true ((tenL C).drop (i + 1)) = tenL (C.setQ s q) := by rw [← hout]; simp [insG]
    (repeat (with_reducible first | ((first | apply bindP_intro | apply bind2_intro); (focus (first | rfl | (simp only [walkS, reduceIte, hld, hal, hd, had, a1, a10, l1, w1, a11, l2, w2, a12, l3, w3] <;> rfl)))) | apply cond_t | apply cond_f))
    exact next H vo bo out true kb ho hbo (by
     have := congrArg List.length he
     rw [← hF, hlq] at this
     simp only [List.length_append, insG, List.length_drop, List.length_cons, List.length_nil] at this
     omega) he
   | false =>
    have hol2 : out.length = i := by
     have := congrArg List.length hout
     rw [← hF, hlq] at this
     simp only [List.length_append, insG_len, List.length_drop, List.length_cons] at this
     omega
    by_cases hgt : s < y.1
    ·have d1 : decide ((s : Int) < (y.1 : Int)) = true := dT (by omega)
     have hqv : aload H (some 4) (.ptr (some (bq, 0))) = some (.agg (encQ q)) := aload_all (kb.cells hq) rfl
     have hb : buildO ze67900 [(0, 1, .int .u8 (s : Nat)), (1, 4, .agg (encQ q))] = some (.agg (rowT (s, q))) := rfl
     have hfq := fill_row (z := ze67900) (sz := 5) rfl (rowT_ok (s, q)).1
     obtain ⟨v', G', b', q1, q2, q3, q4⟩ := row H vo bo out (s, q) kb ho hbo (by omega)
     (repeat (with_reducible first | ((first | apply bindP_intro | apply bind2_intro); (focus (first | rfl | (simp only [walkS, reduceIte, hld, hal, hd, had, a1, a10, l1, w1, a11, l2, w2, a12, l3, w3, a0, l0, d1, hqv, hb, hfq, q1] <;> rfl)))) | apply cond_t | apply cond_f))
     refine next G' v' b' (out ++ [(s, q)]) true q4 q2 q3 (by rw [List.length_append]; simp; omega) ?_
     rw [← hout]
     unfold insG
     rw [if_pos hgt]
     simp
    ·have d1 : decide ((s : Int) < (y.1 : Int)) = false := dF (by omega)
     (repeat (with_reducible first | ((first | apply bindP_intro | apply bind2_intro); (focus (first | rfl | (simp only [walkS, reduceIte, hld, hal, hd, had, a1, a10, l1, w1, a11, l2, w2, a12, l3, w3, a0, l0, d1] <;> rfl)))) | apply cond_t | apply cond_f))
     refine next H vo bo out false kb ho hbo (by omega) ?_
     rw [← hout]
     conv => rhs; unfold insG
     rw [if_neg hgt]
     simp
  ·have hd : decide ((i : Int) < ((tenL C).length : Int)) = false := dF (by omega)
   rw [List.drop_eq_nil_of_le (by omega)] at hout hcur
   have hcu : addL q (tenL C) = cur := hcur.symm
   (repeat (with_reducible first | ((first | apply bindP_intro | apply bind2_intro); (focus (first | rfl | (simp only [walkS, reduceIte, hld, hal, hd] <;> rfl)))) | apply cond_t | apply cond_f))
   unfold F61_j1
   cases done with
   | true =>
    have he : out = tenL (C.setQ s q) := by rw [← hout]; simp [insG]
    rw [he] at ho
    (repeat (with_reducible first | ((first | apply bindP_intro | apply bind2_intro); (focus (first | rfl | (simp only [walkS, reduceIte] <;> rfl)))) | apply cond_t | apply cond_f))
    exact fin H vo bo kb ho hbo hcu
   | false =>
    have hqv : aload H (some 4) (.ptr (some (bq, 0))) = some (.agg (encQ q)) := aload_all (kb.cells hq) rfl
    have hb : buildO ze67900 [(0, 1, .int .u8 (s : Nat)), (1, 4, .agg (encQ q))] = some (.agg (rowT (s, q))) := rfl
    have hfq := fill_row (z := ze67900) (sz := 5) rfl (rowT_ok (s, q)).1
    obtain ⟨v', G', b', q1, q2, q3, q4⟩ := row H vo bo out (s, q) kb ho hbo (by omega)
    have he : out ++ [(s, q)] = tenL (C.setQ s q) := by rw [← hout]; rfl
    rw [he] at q2
    (repeat (with_reducible first | ((first | apply bindP_intro | apply bind2_intro); (focus (first | rfl | (simp only [walkS, reduceIte, hqv, hb, hfq, q1] <;> rfl)))) | apply cond_t | apply cond_f))
    exact fin G' v' b' q4 q2 q3 hcu
theorem rcreate_c {s : Nat} {H : Heap} {v : AVal} (h : R20 H v C) (hok : OkC C) (hlim : lim ≤ H.next) (hs : s < 256) (q : Quo) (hn : 20 ≤ n) : ∃ r H', Ahs.runT ap (n + 1) lim (.fn 61) [v, .int .u8 (s : Nat), .agg (encQ q)] H = some (r, H') ∧ Out20 H H' r (createC C s q) := by
 obtain ⟨vT, vP, rfl, hT, hP, hpl⟩ := h.ex
 refine F61_run a61 ?_
 unfold F61
 have hc : (AVal.agg [vT, vP]).cells = [vT, vP] := rfl
 have ho : ([vT, vP].all fun v => v.one) = true := by simp [hT.one.1, hP.one.1]
 have hcq : (AVal.agg (encQ q)).cells = encQ q := rfl
 have hoq : ((encQ q).all fun v => v.one) = true := rfl
 have n1 : (H.push (.cells [vT, vP])).next = H.next + 1 := Heap.next_push _ _
 have n2 : ((H.push (.cells [vT, vP])).push (.cells (encQ q))).next = H.next + 2 := by rw [Heap.next_push, n1]
 obtain ⟨G, hG⟩ : ∃ G, G = ((H.push (.cells [vT, vP])).push (.cells (encQ q))).push (.cells zf3f7a3) := ⟨_, rfl⟩
 have kG : Keeps2 H G := by rw [hG]; exact ((Keeps2.push _ _).trans (.push _ _)).trans (.push _ _)
 have nG : G.next = H.next + 3 := by rw [hG, Heap.next_push, n2]
 have cx : G.cells H.next = some [vT, vP] := by rw [hG]; exact cells_push_old (cells_push_old (cells_push_new H _))
 have cq : G.cells (H.next + 1) = some (encQ q) := by rw [hG, ← n1]; exact cells_push_old (cells_push_new _ _)
 have cr : G.cells (H.next + 2) = some zf3f7a3 := by rw [hG, ← n2]; exact cells_push_new _ _
 have TG := hT.keep kG
 have PG := hP.keep kG
 have hlow : ∀ b, slBlk vT = some b ∨ slBlk vP = some b → b < H.next := fun b hb => by
  rcases hb with hb | hb
  ·exact hT.lt b hb
  ·exact hP.lt b hb
 have same : ∀ (G' : Heap) (code : Int), Keeps2 G G' → createC C s q = (code, C) → Out20 H (G'.set (H.next + 2) (.cells [vT, vP])) (.tup [.agg [vT, vP], .int .u8 code]) (createC C s q) := fun G' code k' e => by
  rw [e]
  have kH := kG.trans k'
  have fr : Fram (fun c => c = H.next + 2) G' (G'.set (H.next + 2) (.cells [vT, vP])) := Fram.set (S := fun c => c = H.next + 2) rfl
  refine ⟨⟨_, rfl, vT, vP, rfl, (hT.keep kH).frame fr fun b hb e => ?_, (hP.keep kH).frame fr fun b hb e => ?_, fun b hb => ?_⟩, kH.setNew (by omega) _⟩
  ·have := hlow b (.inl hb); omega
  ·have := hlow b (.inr hb); omega
  ·obtain ⟨cs, q1, q2⟩ := hpl b hb
   have := hlow b (.inr hb)
   exact ⟨cs, cells_set_other (kH.cells q1) (by omega), q2⟩
 have lq : aload G (some 4) (.ptr (some (H.next + 1, 0))) = some (.agg (encQ q)) := aload_all cq rfl
 by_cases h4 : 4 ≤ s
 ·have d4 : decide ((3 : Int) < (s : Int)) = true := dT (by omega)
  have e : createC C s q = (11, C) := by unfold createC; rw [if_pos (.inl h4)]
  obtain ⟨r1, r2, r3⟩ := ret_same (K := fun _ _ => True) (H0 := H) (lim := lim) cx cr rfl (by omega) hT.one hP.one
  (repeat (with_reducible first | ((first | apply bindP_intro | apply bind2_intro); (focus (first | rfl | (simp only [walkS, reduceIte, hc, ho, hcq, hoq, n1, n2, d4, ← hG, r1, r2, r3] <;> rfl)))) | apply cond_t | apply cond_f))
  exact same G 11 (.refl _) e
 have d4 : decide ((3 : Int) < (s : Int)) = false := dF (by omega)
 obtain ⟨n', hn'⟩ : ∃ n', n = n' + 1 := ⟨n - 1, by omega⟩
 obtain ⟨_, G2, g2, rfl, k2⟩ := rright_c (H := G) (n := n') (lim := lim) q
 rw [← hn'] at g2
 cases hr : rightQ q with
 | false =>
  rw [hr] at g2
  have e : createC C s q = (11, C) := by unfold createC; rw [if_pos (.inr hr)]
  obtain ⟨r1, r2, r3⟩ := ret_same (K := fun _ _ => True) (H0 := H) (lim := lim) (k2.cells cx) (k2.cells cr) rfl (by omega) hT.one hP.one
  (repeat (with_reducible first | ((first | apply bindP_intro | apply bind2_intro); (focus (first | rfl | (simp only [walkS, reduceIte, hc, ho, hcq, hoq, n1, n2, d4, ← hG, lq, g2, r1, r2, r3] <;> rfl)))) | apply cond_t | apply cond_f))
  exact same G2 11 k2 e
 | true =>
  rw [hr] at g2
  have k2n := k2.next
  have R2 : R20 G2 (.agg [vT, vP]) C := h.keep (kG.trans k2)
  obtain ⟨_, G3, g3, rfl, k3⟩ := find_c (n := n') (lim := lim) (s := s) R2 (by omega) hs (by omega)
  rw [← hn'] at g3
  have k3n := k3.next
  have hl2 : aload G2 (some 2) (.ptr (some (H.next, 0))) = some (.agg [vT, vP]) := aload_all (k2.cells cx) rfl
  have hqc : quotaC C s = if 0 < (C.q s).k then (C.q s, true) else (noQ, false) := by
   unfold quotaC
   by_cases hk : 0 < (C.q s).k
   ·rw [if_pos ⟨by omega, hk⟩, if_pos hk]
   ·rw [if_neg (fun e => hk e.2), if_neg hk]
  have hst : astore lim (G3.push (.cells z547173)) 4 (.ptr (some (G3.next, 0))) (.agg (encQ (quotaC C s).1)) = some (G3.push (.cells (encQ (quotaC C s).1))) := astore_new (cs := z547173) (x := .agg (encQ (quotaC C s).1)) (by omega) rfl rfl rfl
  have k4 : Keeps2 G3 (G3.push (.cells (encQ (quotaC C s).1))) := .push _ _
  generalize hG4 : G3.push (.cells (encQ (quotaC C s).1)) = G4 at *
  have k24 := (k2.trans k3).trans k4
  by_cases hk : 0 < (C.q s).k
  ·rw [if_pos hk] at hqc
   have e : createC C s q = (10, C) := by unfold createC; rw [if_neg (by rw [hr]; simp; omega), if_pos hk]
   have e2 : (quotaC C s).2 = true := by rw [hqc]
   rw [e2] at g3
   obtain ⟨r1, r2, r3⟩ := ret_same (K := fun _ _ => True) (H0 := H) (lim := lim) (k24.cells cx) (k24.cells cr) rfl (by omega) hT.one hP.one
   (repeat (with_reducible first | ((first | apply bindP_intro | apply bind2_intro); (focus (first | rfl | (simp only [walkS, reduceIte, hc, ho, hcq, hoq, n1, n2, d4, ← hG, lq, g2, hl2, g3, hst, hG4, r1, r2, r3] <;> rfl)))) | apply cond_t | apply cond_f))
   exact same G4 10 k24 e
  ·rw [if_neg hk] at hqc
   have e : createC C s q = if 48 < (sumQ C 4 0 q).k ∨ 1536 < (sumQ C 4 0 q).b ∨ 200 < (sumQ C 4 0 q).r then (9, C) else (0, C.setQ s q) := by
    unfold createC; rw [if_neg (by rw [hr]; simp; omega), if_neg hk]
   have e2 : (quotaC C s).2 = false := by rw [hqc]
   rw [e2] at g3
   have cq4 := k24.cells cq
   have l0 : aload G4 none (.ptr (some (H.next + 1, 0))) = some (.int .i64 q.k) := by rw [aload_one cq4]; rfl
   have l1 : aload G4 none (.ptr (some (H.next + 1, 1))) = some (.int .i64 q.b) := by rw [aload_one cq4]; rfl
   have l2 : aload G4 none (.ptr (some (H.next + 1, 2))) = some (.int .i64 q.r) := by rw [aload_one cq4]; rfl
   have hle := (fitQ.le (.inr hr) : _)
   have kH4 := kG.trans k24
   have hF := ten_set (C := C) (q := q) (show s < 4 by omega) hk (right_pos hr)
   have hlen := tenL_len C
   (repeat (with_reducible first | ((first | apply bindP_intro | apply bind2_intro); (focus (first | rfl | (simp only [walkS, reduceIte, hc, ho, hcq, hoq, n1, n2, d4, ← hG, lq, g2, hl2, g3, hst, hG4, l0, l1, l2] <;> rfl)))) | apply cond_t | apply cond_f))
   rw [e]
   exact rcreate_loop (H0 := H) (S := sumQ C 4 0 q) (Hb := G4) hok (k24.cells cx) cq4 (k24.cells cr) rfl (by omega) (hT.keep kH4) (hP.keep kH4) (fun b hb => by obtain ⟨cs, q1, q2⟩ := hpl b hb; exact ⟨cs, kH4.cells q1, q2⟩) hlow kH4 (Nat.le_refl _) (by omega) hlim hF (ten_sum hok.fit q)
    (fun v H' hO => hO) n 0 q false (.sl none 0 (.ex 0)) G4.next [] G4 (by omega) (Nat.zero_le _) (by simp) (.refl _) ⟨fun x hx => by simp at hx, .inl ⟨rfl, rfl⟩⟩ (Nat.le_refl _) (by rw [List.drop_zero]; exact hF) (by rw [List.drop_zero]) (by omega) (by omega) (by omega)
end
theorem ten_del (C : PCat) {s : Nat} (hs : s < 4) (f : List Ent) : tenL { C.setQ s noQ with fs := f } = (tenL C).filter fun x => !decide (x.1 = s) := by
 unfold tenL
 match s, hs with
 | 0, _ | 1, _ | 2, _ | 3, _ =>
  by_cases h0 : 0 < C.q0.k <;> by_cases h1 : 0 < C.q1.k <;> by_cases h2 : 0 < C.q2.k <;> by_cases h3 : 0 < C.q3.k <;>
   simp [PCat.setQ, PCat.q, h0, h1, h2, h3, List.filter_cons, noQ]
theorem plain_rowP (x : Ent) : (rowP x).all plainV = true := rfl
theorem plain_rows (l : List Ent) : (l.map rowP).flatten.all plainV = true := by
 induction l with
 | nil => rfl
 | cons x l ih => rw [List.map_cons, List.flatten_cons, List.all_append, plain_rowP, ih]; rfl
def OwnN (H : Heap) (sz : Nat) (v : AVal) (xs : List (List AVal)) (bv : Nat) : Prop := Own H sz v xs bv ∧ (xs = [] → v = .sl none 0 (.ex 0))
theorem OwnN.cells {H : Heap} {sz : Nat} {v : AVal} {xs : List (List AVal)} {bv : Nat} (h : OwnN H sz v xs bv) : ∀ b, slBlk v = some b → b = bv ∧ H.cells bv = some xs.flatten := by
 intro b hb
 refine ⟨h.1.blk b hb, ?_⟩
 rcases h.1.2 with ⟨rfl, _⟩ | ⟨o, cs, e, rfl, _⟩ | ⟨_, hc⟩
 ·simp [slBlk] at hb
 ·rw [h.2 rfl] at hb; simp [slBlk] at hb
 ·exact hc
theorem push_own {lim sz bytes : Nat} {zero : List AVal} {H0 H : Heap} {vo : AVal} {rows : List (List AVal)} {bo : Nat} {y : List AVal} (ho : OwnN H sz vo rows bo) (hb : H0.next ≤ bo) (hlim : lim ≤ H0.next) (k0 : Keeps2 H0 H) (hz : zero.length = sz) (hs : 0 < sz)
  (hy : y.length = sz ∧ y.all (·.one) = true) (hroom : (rows.length + 1) * bytes ≤ room) (hroom2 : rows.length + 1 ≤ room) :
  ∃ v' H' b', aappend lim (H.push (.cells y)) zero bytes false vo (.sl (some (H.next, 0)) 1 (.ex 1)) = some (v', H') ∧ OwnN H' sz v' (rows ++ [y]) b' ∧ H.next ≤ b' ∧ Keeps2 H0 H' ∧ Fram (fun c => c = bo) H H' := by
 have k1 : Keeps2 H (H.push (.cells y)) := .push _ _
 have o1 : Own (H.push (.cells y)) sz vo rows bo := ho.1.frame (.of (S := fun _ => False) k1) (fun e => e)
 have hsrc : source (H.push (.cells y)) sz (.sl (some (H.next, 0)) 1 (.ex 1)) = some (([y] : List (List AVal)).length, ([y] : List (List AVal)).flatten) := by
  rw [source_new H (n := 1) (by rw [hy.1]; omega) (by decide)]
  simp
 obtain ⟨v', H', b', h1, h2, h3, h4, h5⟩ := own_append (lim := lim) (zero := zero) (bytes := bytes) o1 hz hs hsrc (fun z hz => by simp at hz; subst hz; exact hy) (by simpa using hroom) (by simpa using hroom2) (fun _ => by omega)
 have hkn := k1.next
 have fr : Fram (fun c => c = bo) H H' := (Fram.of (S := fun c => c = bo) k1).trans (h3 : Fram _ _ _) fun c _ e => o1.blk c e
 refine ⟨v', H', b', h1, ⟨h2, fun e => by simp at e⟩, ?_, Fram.keeps k0 fr fun c hc e => by omega, fr⟩
 rcases h4 with ⟨_, e | e⟩ | e
 ·simp at e
 ·exact e.elim
 ·omega
theorem out_same {H0 G : Heap} {vT vP : AVal} {br : Nat} {C : PCat} (h : R20 H0 (.agg [vT, vP]) C) (k : Keeps2 H0 G) (hb : H0.next ≤ br) (code : Int) : Out20 H0 (G.set br (.cells [vT, vP])) (.tup [.agg [vT, vP], .int .u8 code]) (code, C) := by
 obtain ⟨uT, uP, e, hT, hP, hpl⟩ := h.ex
 simp only [AVal.agg.injEq, List.cons.injEq, and_true] at e
 obtain ⟨rfl, rfl⟩ := e
 have fr : Fram (fun c => c = br) G (G.set br (.cells [vT, vP])) := Fram.set (S := fun c => c = br) rfl
 refine ⟨⟨_, rfl, vT, vP, rfl, (hT.keep k).frame fr fun b hb e => ?_, (hP.keep k).frame fr fun b hb e => ?_, fun b hb => ?_⟩, k.setNew hb _⟩
 ·have := hT.lt b hb; omega
 ·have := hP.lt b hb; omega
 ·obtain ⟨cs, q1, q2⟩ := hpl b hb
  have := hP.lt b hb
  exact ⟨cs, cells_set_other (k.cells q1) (by omega), q2⟩
section
variable {n lim N : Nat} {Hb : Heap} {C : PCat}
theorem rrem_two {K : AVal → Heap → Prop} {bx br ox s : Nat} {vT vP voT : AVal} {bT : Nat} {H0 : Heap} {z : List AVal} (hx : Hb.cells bx = some [vT, vP]) (hr : Hb.cells br = some z) (hz : z.length = 2) (hs4 : s < 4) (hlfs : C.fs.length ≤ 1000)
  (hP : Fz Hb 3 vP (C.fs.map rowP)) (k0 : Keeps2 H0 Hb) (gr : H0.next ≤ br) (hlim : lim ≤ H0.next) (hox : Hb.next ≤ ox) (hbT : Hb.next ≤ bT ∧ bT ≠ ox)
  (hK : ∀ v H', Out20 H0 H' v (0, { C.setQ s noQ with fs := rmE C.fs s }) → K v H') :
  ∀ (f i : Nat) (vo : AVal) (bo : Nat) (out : List Ent) (H : Heap), C.fs.length < f + i → i ≤ C.fs.length → out.length ≤ i → Keeps2 Hb H → H.cells ox = some [voT, vo] → OwnN H 5 voT ((tenL { C.setQ s noQ with fs := rmE C.fs s }).map rowT) bT → OwnN H 3 vo (out.map rowP) bo → Hb.next ≤ bo → bo ≠ ox → bo ≠ bT → out ++ rmE (C.fs.drop i) s = rmE C.fs s →
   F76_l2 (Ahs.runT ap n) lim N K f (.int .u8 (s : Nat)) (.ptr (some (bx, 0))) (.ptr (some (br, 0))) (.ptr (some (ox, 0))) (.int .i64 (i : Int)) H
 | 0, i, vo, bo, out, H, h1, h2, _, _, _, _, _, _, _, _, _ => by exfalso; omega
 | f + 1, i, vo, bo, out, H, hf, hi, hol, kb, hc, hoT, ho, hbo, n1, n2, hout => by
  show F76_s2 _ _ _ _ (F76_l2 _ _ _ _ f) _ _ _ _ _ _
  unfold F76_s2
  have hsl := (hP.keep kb).sl
  have kbn := kb.next
  have k0n := k0.next
  have hld : aload H none (.ptr (some (bx, 1))) = some vP := by rw [aload_one (kb.cells hx)]; rfl
  have hal : alen false vP = some (.int .i64 (C.fs.length : Int)) := by have := hsl.len; rw [List.length_map] at this; exact this
  by_cases hil : i < C.fs.length
  ·have hd : decide ((i : Int) < (C.fs.length : Int)) = true := dT (by omega)
   obtain ⟨y, hy⟩ : ∃ y, y = C.fs[i] := ⟨_, rfl⟩
   have hx5 : C.fs[i]? = some y := by rw [hy]; exact List.getElem?_eq_getElem hil
   have hxr : (C.fs.map rowP)[i]? = some (rowP y) := by rw [List.getElem?_map, hx5]; rfl
   have hml : i < (C.fs.map rowP).length := by rw [List.length_map]; exact hil
   have had := hsl.addr (k := .i64) (i := i) hml
   have a1 : faddrO 1 (Ahs.slot vP (i * 3)) = some (Ahs.slot vP (i * 3 + 1)) := faddr_slot hsl (by omega) (i * 3) 1
   have l1 : aload H none (Ahs.slot vP (i * 3 + 1)) = some (.int .u8 (y.2.1 : Int)) := hsl.loadf hxr (f := 1) (by omega)
   have hi1 : IntKind.i64.wrap ((i : Int) + 1) = ((i + 1 : Nat) : Int) := i64_succ (by omega)
   have hdrop : C.fs.drop i = y :: C.fs.drop (i + 1) := by rw [hy]; exact List.drop_eq_getElem_cons hil
   rw [hdrop] at hout
   unfold rmE at hout
   rw [List.filter_cons] at hout
   by_cases he : y.2.1 = s
   ·have e1 : ((y.2.1 : Int) != (s : Int)) = false := by simp [he]
    (repeat (with_reducible first | ((first | apply bindP_intro | apply bind2_intro); (focus (first | rfl | (simp only [walkS, reduceIte, hld, hal, hd, had, a1, l1, e1] <;> rfl)))) | apply cond_t | apply cond_f))
    unfold F76_j1
    (repeat (with_reducible first | ((first | apply bindP_intro | apply bind2_intro); (focus (first | rfl | (simp only [walkS, reduceIte, hi1] <;> rfl)))) | apply cond_t | apply cond_f))
    exact rrem_two hx hr hz hs4 hlfs hP k0 gr hlim hox hbT hK f (i + 1) vo bo out H (by omega) (by omega) (by omega) kb hc hoT ho hbo n1 n2 (by simpa [he, rmE] using hout)
   ·have e1 : ((y.2.1 : Int) != (s : Int)) = true := by
     have : ¬ (y.2.1 : Int) = (s : Int) := by omega
     simpa using this
    have l3 : aload H (some 3) (Ahs.slot vP (i * 3)) = some (.agg (rowP y)) := hsl.load hxr
    have lo : aload H none (.ptr (some (ox, 1))) = some vo := by rw [aload_one hc]; rfl
    have hfr := fill_row (z := zafa8ae) (sz := 3) rfl (rowP_ok y).1
    obtain ⟨v', G, b', q1, q2, q3, q4, q5⟩ := push_own (lim := lim) (sz := 3) (bytes := 24) (zero := zafa8ae) ho hbo (by omega) kb rfl (by decide) (rowP_ok y) (by rw [List.length_map]; unfold room; omega) (by rw [List.length_map]; unfold room; omega)
    have lox := Heap.cells_lt hc
    have hcG : G.cells ox = some [voT, vo] := q5.cells hc (Ne.symm n1)
    have o' := q2.1.one
    have hst : astore lim G 1 (.ptr (some (ox, 1))) v' = some (G.set ox (.cells [voT, v'])) := astore_cell hcG (by omega) o'.2 o'.1 (by show 1 < 2; omega) rfl
    have hoT' : OwnN G 5 voT ((tenL { C.setQ s noQ with fs := rmE C.fs s }).map rowT) bT := ⟨hoT.1.frame q5 (fun e => n2 e.symm), hoT.2⟩
    have fs : Fram (fun c => c = ox) G (G.set ox (.cells [voT, v'])) := Fram.set (S := fun c => c = ox) rfl
    have lbT : bT < H.next ∨ slBlk voT = none := by
     cases hq : slBlk voT with
     | none => exact .inr rfl
     | some c => exact .inl (by obtain ⟨rfl, hc⟩ := hoT.cells c hq; exact Heap.cells_lt hc)
    (repeat (with_reducible first | ((first | apply bindP_intro | apply bind2_intro); (focus (first | rfl | (simp only [walkS, reduceIte, hld, hal, hd, had, a1, l1, e1, lo, l3, hfr, q1, hst] <;> rfl)))) | apply cond_t | apply cond_f))
    unfold F76_j1
    (repeat (with_reducible first | ((first | apply bindP_intro | apply bind2_intro); (focus (first | rfl | (simp only [walkS, reduceIte, hi1] <;> rfl)))) | apply cond_t | apply cond_f))
    rcases lbT with lbT | lbT
    ·refine rrem_two hx hr hz hs4 hlfs hP k0 gr hlim hox hbT hK f (i + 1) v' b' (out ++ [y]) _ (by omega) (by omega) (by rw [List.length_append]; simp; omega) (q4.setNew hox _) (cells_set_same (Heap.cells_lt hcG)) ⟨hoT'.1.frame fs hbT.2, hoT'.2⟩ ⟨?_, fun e => by simp at e⟩ (by omega) (by omega) (by omega) (by unfold rmE; rw [← hout]; simp [he])
     rw [List.map_append]
     exact q2.1.frame fs (by omega)
    ·-- no tenants at all: the block is any
     have hnil : voT = .sl none 0 (.ex 0) ∧ (tenL { C.setQ s noQ with fs := rmE C.fs s }).map rowT = [] := by
      rcases hoT.1.2 with ⟨e1, e2⟩ | ⟨o, cs, e1, e2, _⟩ | ⟨e1, _⟩
      ·exact ⟨e1, e2⟩
      ·rw [e1] at lbT; simp [slBlk] at lbT
      ·rw [e1] at lbT; simp [slBlk] at lbT
     refine rrem_two (bT := b' + ox + 1) hx hr hz hs4 hlfs hP k0 gr hlim hox ⟨by omega, by omega⟩ hK f (i + 1) v' b' (out ++ [y]) _ (by omega) (by omega) (by rw [List.length_append]; simp; omega) (q4.setNew hox _) (cells_set_same (Heap.cells_lt hcG)) ⟨⟨hoT.1.1, .inl hnil⟩, hoT.2⟩ ⟨?_, fun e => by simp at e⟩ (by omega) (by omega) (by omega) (by unfold rmE; rw [← hout]; simp [he])
     rw [List.map_append]
     exact q2.1.frame fs (by omega)
  ·have hd : decide ((i : Int) < (C.fs.length : Int)) = false := dF (by omega)
   rw [List.drop_eq_nil_of_le (by omega)] at hout
   have hout : out = rmE C.fs s := by rw [← hout]; simp [rmE]
   subst hout
   (repeat (with_reducible first | ((first | apply bindP_intro | apply bind2_intro); (focus (first | rfl | (simp only [walkS, reduceIte, hld, hal, hd] <;> rfl)))) | apply cond_t | apply cond_f))
   unfold F76_j0
   have oT := hoT.1.one
   have oP := ho.1.one
   have lr := Heap.cells_lt hr
   obtain ⟨r1, r2, r3⟩ := ret_same (K := K) (H0 := H0) (lim := lim) hc (kb.cells hr) hz (by omega) oT oP
   (repeat (with_reducible first | ((first | apply bindP_intro | apply bind2_intro); (focus (first | rfl | (simp only [walkS, reduceIte, r1, r2, r3] <;> rfl)))) | apply cond_t | apply cond_f))
   have fr : Fram (fun c => c = br) H (H.set br (.cells [voT, vo])) := Fram.set (S := fun c => c = br) rfl
   refine hK _ _ ⟨⟨_, rfl, voT, vo, rfl, Own.fz (hoT.1.frame fr (by omega)), Own.fz (ho.1.frame fr (by omega)), fun b hb => ?_⟩, (k0.trans kb).setNew gr _⟩
   obtain ⟨rfl, hcc⟩ := ho.cells b hb
   exact ⟨_, cells_set_other hcc (by omega), plain_rows _⟩
theorem rrem_one {K : AVal → Heap → Prop} {bx br ox s : Nat} {vT vP : AVal} {H0 : Heap} {z : List AVal} (hx : Hb.cells bx = some [vT, vP]) (hr : Hb.cells br = some z) (hz : z.length = 2) (hs4 : s < 4) (hlfs : C.fs.length ≤ 1000) (hN : 2000 ≤ N)
  (hT : Fz Hb 5 vT ((tenL C).map rowT)) (hP : Fz Hb 3 vP (C.fs.map rowP)) (k0 : Keeps2 H0 Hb) (gr : H0.next ≤ br) (hlim : lim ≤ H0.next) (hox : Hb.next ≤ ox)
  (hK : ∀ v H', Out20 H0 H' v (0, { C.setQ s noQ with fs := rmE C.fs s }) → K v H') :
  ∀ (f i : Nat) (vo : AVal) (bo : Nat) (out : List Ten) (H : Heap), (tenL C).length < f + i → i ≤ (tenL C).length → out.length ≤ i → Keeps2 Hb H → H.cells ox = some [vo, .sl none 0 (.ex 0)] → OwnN H 5 vo (out.map rowT) bo → Hb.next ≤ bo → bo ≠ ox → out ++ ((tenL C).drop i).filter (fun x => !decide (x.1 = s)) = (tenL C).filter (fun x => !decide (x.1 = s)) →
   F76_l0 (Ahs.runT ap n) lim N K f (.int .u8 (s : Nat)) (.ptr (some (bx, 0))) (.ptr (some (br, 0))) (.ptr (some (ox, 0))) (.int .i64 (i : Int)) H
 | 0, i, vo, bo, out, H, h1, h2, _, _, _, _, _, _, _ => by exfalso; omega
 | f + 1, i, vo, bo, out, H, hf, hi, hol, kb, hc, ho, hbo, n1, hout => by
  show F76_s0 _ _ _ _ (F76_l0 _ _ _ _ f) _ _ _ _ _ _
  unfold F76_s0
  have hlen := tenL_len C
  have hsl := (hT.keep kb).sl
  have kbn := kb.next
  have k0n := k0.next
  have hld : aload H none (.ptr (some (bx, 0))) = some vT := by rw [aload_one (kb.cells hx)]; rfl
  have hal : alen false vT = some (.int .i64 ((tenL C).length : Int)) := by have := hsl.len; rw [List.length_map] at this; exact this
  by_cases hil : i < (tenL C).length
  ·have hd : decide ((i : Int) < ((tenL C).length : Int)) = true := dT (by omega)
   obtain ⟨y, hy⟩ : ∃ y, y = (tenL C)[i] := ⟨_, rfl⟩
   have hx5 : (tenL C)[i]? = some y := by rw [hy]; exact List.getElem?_eq_getElem hil
   have hxr : ((tenL C).map rowT)[i]? = some (rowT y) := by rw [List.getElem?_map, hx5]; rfl
   have hml : i < ((tenL C).map rowT).length := by rw [List.length_map]; exact hil
   have had := hsl.addr (k := .i64) (i := i) hml
   have a0 : faddrO 0 (Ahs.slot vT (i * 5)) = some (Ahs.slot vT (i * 5)) := faddr_slot hsl (by omega) (i * 5) 0
   have l0 : aload H none (Ahs.slot vT (i * 5)) = some (.int .u8 (y.1 : Int)) := hsl.loadf hxr (f := 0) (by omega)
   have hi1 : IntKind.i64.wrap ((i : Int) + 1) = ((i + 1 : Nat) : Int) := i64_succ (by omega)
   have hdrop : (tenL C).drop i = y :: (tenL C).drop (i + 1) := by rw [hy]; exact List.drop_eq_getElem_cons hil
   rw [hdrop, List.filter_cons] at hout
   by_cases he : y.1 = s
   ·have e1 : ((y.1 : Int) != (s : Int)) = false := by simp [he]
    (repeat (with_reducible first | ((first | apply bindP_intro | apply bind2_intro); (focus (first | rfl | (simp only [walkS, reduceIte, hld, hal, hd, had, a0, l0, e1] <;> rfl)))) | apply cond_t | apply cond_f))
    unfold F76_j3
    (repeat (with_reducible first | ((first | apply bindP_intro | apply bind2_intro); (focus (first | rfl | (simp only [walkS, reduceIte, hi1] <;> rfl)))) | apply cond_t | apply cond_f))
    exact rrem_one hx hr hz hs4 hlfs hN hT hP k0 gr hlim hox hK f (i + 1) vo bo out H (by omega) (by omega) (by omega) kb hc ho hbo n1 (by simpa [he] using hout)
   ·have e1 : ((y.1 : Int) != (s : Int)) = true := by
     have : ¬ (y.1 : Int) = (s : Int) := by omega
     simpa using this
    have l5 : aload H (some 5) (Ahs.slot vT (i * 5)) = some (.agg (rowT y)) := hsl.load hxr
    have lo : aload H none (.ptr (some (ox, 0))) = some vo := by rw [aload_one hc]; rfl
    have hfr := fill_row (z := ze67900) (sz := 5) rfl (rowT_ok y).1
    obtain ⟨v', G, b', q1, q2, q3, q4, q5⟩ := push_own (lim := lim) (sz := 5) (bytes := 40) (zero := ze67900) ho hbo (by omega) kb rfl (by decide) (rowT_ok y) (by rw [List.length_map]; unfold room; omega) (by rw [List.length_map]; unfold room; omega)
    have lox := Heap.cells_lt hc
    have hcG : G.cells ox = some [vo, .sl none 0 (.ex 0)] := q5.cells hc (Ne.symm n1)
    have o' := q2.1.one
    have hst : astore lim G 1 (.ptr (some (ox, 0))) v' = some (G.set ox (.cells [v', .sl none 0 (.ex 0)])) := astore_cell hcG (by omega) o'.2 o'.1 (by show 0 < 2; omega) rfl
    have fs : Fram (fun c => c = ox) G (G.set ox (.cells [v', .sl none 0 (.ex 0)])) := Fram.set (S := fun c => c = ox) rfl
    (repeat (with_reducible first | ((first | apply bindP_intro | apply bind2_intro); (focus (first | rfl | (simp only [walkS, reduceIte, hld, hal, hd, had, a0, l0, e1, lo, l5, hfr, q1, hst] <;> rfl)))) | apply cond_t | apply cond_f))
    unfold F76_j3
    (repeat (with_reducible first | ((first | apply bindP_intro | apply bind2_intro); (focus (first | rfl | (simp only [walkS, reduceIte, hi1] <;> rfl)))) | apply cond_t | apply cond_f))
    refine rrem_one hx hr hz hs4 hlfs hN hT hP k0 gr hlim hox hK f (i + 1) v' b' (out ++ [y]) _ (by omega) (by omega) (by rw [List.length_append]; simp; omega) (q4.setNew hox _) (cells_set_same (Heap.cells_lt hcG)) ⟨?_, fun e => by simp at e⟩ (by omega) (by omega) (by rw [← hout]; simp [he])
    rw [List.map_append]
    exact q2.1.frame fs (by omega)
  ·have hd : decide ((i : Int) < ((tenL C).length : Int)) = false := dF (by omega)
   rw [List.drop_eq_nil_of_le (by omega)] at hout
   have hout : out = tenL { C.setQ s noQ with fs := rmE C.fs s } := by rw [ten_del C hs4, ← hout]; simp
   subst hout
   (repeat (with_reducible first | ((first | apply bindP_intro | apply bind2_intro); (focus (first | rfl | (simp only [walkS, reduceIte, hld, hal, hd] <;> rfl)))) | apply cond_t | apply cond_f))
   unfold F76_j2
   exact rrem_two (bT := bo) hx hr hz hs4 hlfs hP k0 gr hlim hox ⟨hbo, n1⟩ hK N 0 (.sl none 0 (.ex 0)) (bo + ox + 1) [] H (by omega) (Nat.zero_le _) (Nat.le_refl _) kb hc ho ⟨⟨fun x hx => by simp at hx, .inl ⟨rfl, rfl⟩⟩, fun _ => rfl⟩ (by omega) (by omega) (by omega) rfl
theorem rremove_c {s : Nat} {H : Heap} {v : AVal} (h : R20 H v C) (hlfs : C.fs.length ≤ 1000) (hlim : lim ≤ H.next) (hs : s < 256) (hn : 2020 ≤ n) : ∃ r H', Ahs.runT ap (n + 1) lim (.fn 76) [v, .int .u8 (s : Nat)] H = some (r, H') ∧ Out20 H H' r (removeC C s) := by
 obtain ⟨vT, vP, rfl, hT, hP, hpl⟩ := h.ex
 refine F76_run a76 ?_
 unfold F76
 have hc : (AVal.agg [vT, vP]).cells = [vT, vP] := rfl
 have ho : ([vT, vP].all fun v => v.one) = true := by simp [hT.one.1, hP.one.1]
 have n1 : (H.push (.cells [vT, vP])).next = H.next + 1 := Heap.next_push _ _
 obtain ⟨G, hG⟩ : ∃ G, G = (H.push (.cells [vT, vP])).push (.cells zf3f7a3) := ⟨_, rfl⟩
 have kG : Keeps2 H G := by rw [hG]; exact (Keeps2.push _ _).trans (.push _ _)
 have nG : G.next = H.next + 2 := by rw [hG, Heap.next_push, n1]
 have cx : G.cells H.next = some [vT, vP] := by rw [hG]; exact cells_push_old (cells_push_new H _)
 have cr : G.cells (H.next + 1) = some zf3f7a3 := by rw [hG, ← n1]; exact cells_push_new _ _
 by_cases h4 : 4 ≤ s
 ·have d4 : decide ((3 : Int) < (s : Int)) = true := dT (by omega)
  have e : removeC C s = (11, C) := by unfold removeC; rw [if_pos h4]
  obtain ⟨r1, r2, r3⟩ := ret_same (K := fun _ _ => True) (H0 := H) (lim := lim) cx cr rfl (by omega) hT.one hP.one
  (repeat (with_reducible first | ((first | apply bindP_intro | apply bind2_intro); (focus (first | rfl | (simp only [walkS, reduceIte, hc, ho, n1, d4, ← hG, r1, r2, r3] <;> rfl)))) | apply cond_t | apply cond_f))
  rw [e]
  exact out_same h kG (by omega) 11
 have d4 : decide ((3 : Int) < (s : Int)) = false := dF (by omega)
 obtain ⟨n', hn'⟩ : ∃ n', n = n' + 1 := ⟨n - 1, by omega⟩
 obtain ⟨_, G3, g3, rfl, k3⟩ := find_c (n := n') (lim := lim) (s := s) (h.keep kG) (by omega) hs (by omega)
 rw [← hn'] at g3
 have k3n := k3.next
 have hl2 : aload G (some 2) (.ptr (some (H.next, 0))) = some (.agg [vT, vP]) := aload_all cx rfl
 have hqc : quotaC C s = if 0 < (C.q s).k then (C.q s, true) else (noQ, false) := by
  unfold quotaC
  by_cases hk : 0 < (C.q s).k
  ·rw [if_pos ⟨by omega, hk⟩, if_pos hk]
  ·rw [if_neg (fun e => hk e.2), if_neg hk]
 have hst : astore lim (G3.push (.cells z547173)) 4 (.ptr (some (G3.next, 0))) (.agg (encQ (quotaC C s).1)) = some (G3.push (.cells (encQ (quotaC C s).1))) := astore_new (cs := z547173) (x := .agg (encQ (quotaC C s).1)) (by omega) rfl rfl rfl
 have k4 : Keeps2 G3 (G3.push (.cells (encQ (quotaC C s).1))) := .push _ _
 generalize hG4 : G3.push (.cells (encQ (quotaC C s).1)) = G4 at *
 have k24 := k3.trans k4
 have k4n := k4.next
 have kH4 := kG.trans k24
 by_cases hk : 0 < (C.q s).k
 ·rw [if_pos hk] at hqc
  have e : removeC C s = (0, { C.setQ s noQ with fs := rmE C.fs s }) := by unfold removeC; rw [if_neg h4, if_pos hk]; rfl
  have e2 : (quotaC C s).2 = true := by rw [hqc]
  rw [e2] at g3
  have hz : buildO zf3f7a3 [] = some (.agg zf3f7a3) := rfl
  have hsz : astore lim (G4.push (.cells zf3f7a3)) 2 (.ptr (some (G4.next, 0))) (.agg zf3f7a3) = some (G4.push (.cells zf3f7a3)) := astore_new (cs := zf3f7a3) (x := .agg zf3f7a3) (by omega) rfl rfl rfl
  have hlen := tenL_len C
  have n5 : (G4.push (.cells zf3f7a3)).next = G4.next + 1 := Heap.next_push _ _
  (repeat (with_reducible first | ((first | apply bindP_intro | apply bind2_intro); (focus (first | rfl | (simp only [walkS, reduceIte, hc, ho, n1, d4, ← hG, hl2, g3, hst, hG4, hz, hsz] <;> rfl)))) | apply cond_t | apply cond_f))
  rw [e]
  exact rrem_one (Hb := G4) (H0 := H) (vP := vP) (k24.cells cx) (k24.cells cr) rfl (by omega) hlfs (by omega) (hT.keep kH4) (hP.keep kH4) kH4 (by omega) hlim (Nat.le_refl _) (fun v H' hO => hO) n 0 (.sl none 0 (.ex 0)) (G4.next + 1) [] _ (by omega) (Nat.zero_le _) (Nat.le_refl _) (.push _ _) (cells_push_new G4 _)
   ⟨⟨fun x hx => by simp at hx, .inl ⟨rfl, rfl⟩⟩, fun _ => rfl⟩ (by omega) (by omega) rfl
 ·rw [if_neg hk] at hqc
  have e : removeC C s = (1, C) := by unfold removeC; rw [if_neg h4, if_neg hk]
  have e2 : (quotaC C s).2 = false := by rw [hqc]
  rw [e2] at g3
  obtain ⟨r1, r2, r3⟩ := ret_same (K := fun _ _ => True) (H0 := H) (lim := lim) (k24.cells cx) (k24.cells cr) rfl (by omega) hT.one hP.one
  (repeat (with_reducible first | ((first | apply bindP_intro | apply bind2_intro); (focus (first | rfl | (simp only [walkS, reduceIte, hc, ho, n1, d4, ← hG, hl2, g3, hst, hG4, r1, r2, r3] <;> rfl)))) | apply cond_t | apply cond_f))
  rw [e]
  exact out_same h kH4 (by omega) 1
end
def insP (x : Ent) : Bool → List Ent → List Ent
 | true, l => l
 | false, [] => [x]
 | false, y :: ys => if x.1.1 < y.1.1 then x :: y :: ys else y :: insP x false ys
theorem insP_eq (x : Ent) : ∀ l, insP x false l = insT x l
 | [] => rfl
 | y :: ys => by unfold insP insT; rw [insP_eq x ys]
theorem insT_len (x : Ent) (l : List Ent) : (insT x l).length = l.length + 1 := (insT_perm x l).length_eq
section
variable {n lim N : Nat} {Hb : Heap} {C : PCat}
theorem p_end {H0 H : Heap} {bx br : Nat} {vT vP vo : AVal} {bo : Nat} {F : List Ent} {z : List AVal} (hx : H.cells bx = some [vT, vP]) (hr : H.cells br = some z) (hz : z.length = 2) (hne : bx ≠ br) (hlx : lim ≤ bx) (hlr : lim ≤ br)
  (hT : Fz H 5 vT ((tenL C).map rowT)) (ho : OwnN H 3 vo (F.map rowP) bo) (hnT : ∀ b, slBlk vT = some b → b ≠ bx ∧ b ≠ br) (hno : bo ≠ bx ∧ bo ≠ br) (k0 : Keeps2 H0 H) (gx : H0.next ≤ bx) (gr : H0.next ≤ br) :
  astore lim H 1 (.ptr (some (bx, 1))) vo = some (H.set bx (.cells [vT, vo])) ∧ aload (H.set bx (.cells [vT, vo])) (some 2) (.ptr (some (bx, 0))) = some (.agg [vT, vo]) ∧
   astore lim (H.set bx (.cells [vT, vo])) 2 (.ptr (some (br, 0))) (.agg [vT, vo]) = some ((H.set bx (.cells [vT, vo])).set br (.cells [vT, vo])) ∧ aload ((H.set bx (.cells [vT, vo])).set br (.cells [vT, vo])) (some 2) (.ptr (some (br, 0))) = some (.agg [vT, vo]) ∧
   Out20 H0 ((H.set bx (.cells [vT, vo])).set br (.cells [vT, vo])) (.tup [.agg [vT, vo], .int .u8 0]) (0, { C with fs := F }) := by
 have oT := hT.one
 have oO := ho.1.one
 have st1 : astore lim H 1 (.ptr (some (bx, 1))) vo = some (H.set bx (.cells [vT, vo])) := astore_cell hx hlx oO.2 oO.1 (by show 1 < 2; omega) rfl
 have x1 : (H.set bx (.cells [vT, vo])).cells bx = some [vT, vo] := cells_set_same (Heap.cells_lt hx)
 have rr1 : (H.set bx (.cells [vT, vo])).cells br = some z := cells_set_other hr (Ne.symm hne)
 obtain ⟨s1, s2, s3⟩ := ret_same (K := fun _ _ => True) (H0 := H0) (lim := lim) x1 rr1 hz hlr oT ⟨oO.1, oO.2⟩
 have fr1 : Fram (fun c => c = bx ∨ c = br) H (H.set bx (.cells [vT, vo])) := Fram.set (S := fun c => c = bx ∨ c = br) (.inl rfl)
 have fr : Fram (fun c => c = bx ∨ c = br) H ((H.set bx (.cells [vT, vo])).set br (.cells [vT, vo])) := fr1.trans (Fram.set (S := fun c => c = bx ∨ c = br) (.inr rfl)) fun _ _ e => e
 refine ⟨st1, s1, s2, s3, ⟨_, rfl, vT, vo, rfl, hT.frame fr fun b hb e => ?_, Own.fz (ho.1.frame fr fun e => ?_), fun b hb => ?_⟩, (k0.setNew gx _).setNew gr _⟩
 ·obtain ⟨q1, q2⟩ := hnT b hb
  rcases e with e | e
  ·exact q1 e
  ·exact q2 e
 ·rcases e with e | e
  ·exact hno.1 e
  ·exact hno.2 e
 ·obtain ⟨rfl, hcc⟩ := ho.cells b hb
  exact ⟨_, fr.cells hcc (fun e => by rcases e with e | e; exact hno.1 e; exact hno.2 e), plain_rows _⟩
theorem rdrop_loop {K : AVal → Heap → Prop} {bx bt br : Nat} {vT vP : AVal} {t : Tok} {H0 : Heap} {z : List AVal} (hn : 11 ≤ n) (hx : Hb.cells bx = some [vT, vP]) (hbp : ([vT, vP].all plainV) = true) (ht : Hb.cells bt = some (encB t.1)) (hr : Hb.cells br = some z) (hz : z.length = 2) (hne : bx ≠ br) (hlfs : C.fs.length ≤ 1000)
  (hT : Fz Hb 5 vT ((tenL C).map rowT)) (hP : Fz Hb 3 vP (C.fs.map rowP)) (hpl : ∀ b, slBlk vP = some b → ∃ cs, Hb.cells b = some cs ∧ cs.all plainV = true) (hlT : ∀ b, slBlk vT = some b → b < H0.next) (k0 : Keeps2 H0 Hb) (gx : H0.next ≤ bx) (gr : H0.next ≤ br) (hlim : lim ≤ H0.next)
  (hK : ∀ v H', Out20 H0 H' v (0, { C with fs := delT t C.fs }) → K v H') :
  ∀ (f i : Nat) (vo : AVal) (bo : Nat) (out : List Ent) (H : Heap), C.fs.length < f + i → i ≤ C.fs.length → out.length ≤ i → Keeps2 Hb H → OwnN H 3 vo (out.map rowP) bo → Hb.next ≤ bo → out ++ delT t (C.fs.drop i) = delT t C.fs →
   F77_l0 (Ahs.runT ap n) lim N K f (.ptr (some (bx, 0))) (.ptr (some (bt, 0))) (.ptr (some (br, 0))) vo (.int .i64 (i : Int)) H
 | 0, i, vo, bo, out, H, h1, h2, _, _, _, _, _ => by exfalso; omega
 | f + 1, i, vo, bo, out, H, hf, hi, hol, kb, ho, hbo, hout => by
  show F77_s0 _ _ _ _ (F77_l0 _ _ _ _ f) _ _ _ _ _ _
  unfold F77_s0
  have hsl := (hP.keep kb).sl
  have kbn := kb.next
  have k0n := k0.next
  have hld : aload H none (.ptr (some (bx, 1))) = some vP := by rw [aload_one (kb.cells hx)]; rfl
  have hal : alen false vP = some (.int .i64 (C.fs.length : Int)) := by have := hsl.len; rw [List.length_map] at this; exact this
  by_cases hil : i < C.fs.length
  ·have hd : decide ((i : Int) < (C.fs.length : Int)) = true := dT (by omega)
   obtain ⟨y, hy⟩ : ∃ y, y = C.fs[i] := ⟨_, rfl⟩
   have hx5 : C.fs[i]? = some y := by rw [hy]; exact List.getElem?_eq_getElem hil
   have hxr : (C.fs.map rowP)[i]? = some (rowP y) := by rw [List.getElem?_map, hx5]; rfl
   have hml : i < (C.fs.map rowP).length := by rw [List.length_map]; exact hil
   have had := hsl.addr (k := .i64) (i := i) hml
   have a0 : faddrO 0 (Ahs.slot vP (i * 3)) = some (Ahs.slot vP (i * 3)) := faddr_slot hsl (by omega) (i * 3) 0
   have l0 : aload H none (Ahs.slot vP (i * 3)) = some (.str y.1.1) := hsl.loadf hxr (f := 0) (by omega)
   have htl : aload H (some 8) (.ptr (some (bt, 0))) = some (.agg (encB t.1)) := aload_all (kb.cells ht) (by rw [encB_len, t.2])
   have hi1 : IntKind.i64.wrap ((i : Int) + 1) = ((i + 1 : Nat) : Int) := i64_succ (by omega)
   obtain ⟨n', hn'⟩ : ∃ n', n = n' + 1 := ⟨n - 1, by omega⟩
   obtain ⟨_, H1, r1, rfl, k1⟩ := text_c (H := H) (n := n') (lim := lim) t (by omega)
   rw [← hn'] at r1
   have hkept : keptG none H H1 [.ptr (some (bx, 1)), Ahs.slot vP (i * 3)] := keptG_of k1 fun w hw b hb' => by
    simp only [List.mem_cons, List.not_mem_nil, or_false] at hw
    rcases hw with rfl | rfl
    ·simp only [blkOf, Option.some.injEq] at hb'
     subst hb'
     exact ⟨_, kb.cells hx, hbp⟩
    ·obtain ⟨cs, q1, q2⟩ := hpl b (blk_slot hb')
     exact ⟨cs, kb.cells q1, q2⟩
   have hdrop : C.fs.drop i = y :: C.fs.drop (i + 1) := by rw [hy]; exact List.drop_eq_getElem_cons hil
   rw [hdrop] at hout
   unfold delT at hout
   rw [List.filter_cons] at hout
   have kb1 := kb.trans k1
   have ho1 : OwnN H1 3 vo (out.map rowP) bo := ⟨ho.1.frame (.of (S := fun _ => False) k1) (fun e => e), ho.2⟩
   by_cases he : y.1 = t
   ·have e1 : (!(y.1.1 == t.1)) = false := by rw [he]; simp
    (repeat (with_reducible first | ((first | apply bindP_intro | apply bind2_intro); (focus (first | rfl | (simp only [walkS, reduceIte, hld, hal, hd, had, a0, l0, htl, r1] <;> rfl)))) | apply cond_t | apply cond_f))
    refine ⟨hkept, ?_⟩
    (repeat (with_reducible first | ((first | apply bindP_intro | apply bind2_intro); (focus (first | rfl | (simp only [walkS, reduceIte, e1] <;> rfl)))) | apply cond_t | apply cond_f))
    unfold F77_j1
    (repeat (with_reducible first | ((first | apply bindP_intro | apply bind2_intro); (focus (first | rfl | (simp only [walkS, reduceIte, hi1] <;> rfl)))) | apply cond_t | apply cond_f))
    exact rdrop_loop hn hx hbp ht hr hz hne hlfs hT hP hpl hlT k0 gx gr hlim hK f (i + 1) vo bo out H1 (by omega) (by omega) (by omega) kb1 ho1 hbo (by simpa [he, delT] using hout)
   ·have e1 : (!(y.1.1 == t.1)) = true := by
     have : ¬ y.1.1 = t.1 := fun e => he (Subtype.ext e)
     simpa using this
    have hld1 := aload_keep k1 hld
    have l3 : aload H1 (some 3) (Ahs.slot vP (i * 3)) = some (.agg (rowP y)) := (hsl.keep k1).load hxr
    have hfr := fill_row (z := zafa8ae) (sz := 3) rfl (rowP_ok y).1
    obtain ⟨v', G, b', q1, q2, q3, q4, q5⟩ := push_own (lim := lim) (sz := 3) (bytes := 24) (zero := zafa8ae) ho1 hbo (by omega) kb1 rfl (by decide) (rowP_ok y) (by rw [List.length_map]; unfold room; omega) (by rw [List.length_map]; unfold room; omega)
    have kb1n := kb1.next
    (repeat (with_reducible first | ((first | apply bindP_intro | apply bind2_intro); (focus (first | rfl | (simp only [walkS, reduceIte, hld, hal, hd, had, a0, l0, htl, r1] <;> rfl)))) | apply cond_t | apply cond_f))
    refine ⟨hkept, ?_⟩
    (repeat (with_reducible first | ((first | apply bindP_intro | apply bind2_intro); (focus (first | rfl | (simp only [walkS, reduceIte, e1, hld1, had, l3, hfr, q1] <;> rfl)))) | apply cond_t | apply cond_f))
    unfold F77_j1
    (repeat (with_reducible first | ((first | apply bindP_intro | apply bind2_intro); (focus (first | rfl | (simp only [walkS, reduceIte, hi1] <;> rfl)))) | apply cond_t | apply cond_f))
    refine rdrop_loop hn hx hbp ht hr hz hne hlfs hT hP hpl hlT k0 gx gr hlim hK f (i + 1) v' b' (out ++ [y]) G (by omega) (by omega) (by rw [List.length_append]; simp; omega) q4 ⟨?_, fun e => by simp at e⟩ (by omega) (by unfold delT; rw [← hout]; simp [he])
    rw [List.map_append]
    exact q2.1
  ·have hd : decide ((i : Int) < (C.fs.length : Int)) = false := dF (by omega)
   rw [List.drop_eq_nil_of_le (by omega)] at hout
   have hout : out = delT t C.fs := by rw [← hout]; simp [delT]
   subst hout
   have lx := Heap.cells_lt hx
   have lr := Heap.cells_lt hr
   obtain ⟨e1, e2, e3, e4, e5⟩ := p_end (lim := lim) (H0 := H0) (kb.cells hx) (kb.cells hr) hz hne (by omega) (by omega) (hT.keep kb) ho (fun b hb => by have := hlT b hb; omega) (by omega) (k0.trans kb) gx gr
   (repeat (with_reducible first | ((first | apply bindP_intro | apply bind2_intro); (focus (first | rfl | (simp only [walkS, reduceIte, hld, hal, hd] <;> rfl)))) | apply cond_t | apply cond_f))
   unfold F77_j0
   (repeat (with_reducible first | ((first | apply bindP_intro | apply bind2_intro); (focus (first | rfl | (simp only [walkS, reduceIte, e1, e2, e3, e4] <;> rfl)))) | apply cond_t | apply cond_f))
   exact hK _ _ e5
theorem rdrop_c {H : Heap} {v : AVal} (h : R20 H v C) (hlfs : C.fs.length ≤ 1000) (hlim : lim ≤ H.next) (hn : 2020 ≤ n) (t : Tok) : ∃ r H', Ahs.runT ap (n + 1) lim (.fn 77) [v, .agg (encB t.1)] H = some (r, H') ∧ Out20 H H' r (dropC C t) := by
 obtain ⟨vT, vP, rfl, hT, hP, hpl⟩ := h.ex
 refine F77_run a77 ?_
 unfold F77
 have hc : (AVal.agg [vT, vP]).cells = [vT, vP] := rfl
 have ho : ([vT, vP].all fun v => v.one) = true := by simp [hT.one.1, hP.one.1]
 have n1 : (H.push (.cells [vT, vP])).next = H.next + 1 := Heap.next_push _ _
 have n2 : ((H.push (.cells [vT, vP])).push (.cells (encB t.1))).next = H.next + 2 := by rw [Heap.next_push, n1]
 obtain ⟨G, hG⟩ : ∃ G, G = ((H.push (.cells [vT, vP])).push (.cells (encB t.1))).push (.cells zf3f7a3) := ⟨_, rfl⟩
 have kG : Keeps2 H G := by rw [hG]; exact ((Keeps2.push _ _).trans (.push _ _)).trans (.push _ _)
 have nG : G.next = H.next + 3 := by rw [hG, Heap.next_push, n2]
 have cx : G.cells H.next = some [vT, vP] := by rw [hG]; exact cells_push_old (cells_push_old (cells_push_new H _))
 have ct : G.cells (H.next + 1) = some (encB t.1) := by rw [hG, ← n1]; exact cells_push_old (cells_push_new _ _)
 have cr : G.cells (H.next + 2) = some zf3f7a3 := by rw [hG, ← n2]; exact cells_push_new _ _
 have lt : aload G (some 8) (.ptr (some (H.next + 1, 0))) = some (.agg (encB t.1)) := aload_all ct (by rw [encB_len, t.2])
 have hl2 : aload G (some 2) (.ptr (some (H.next, 0))) = some (.agg [vT, vP]) := aload_all cx rfl
 obtain ⟨n', hn'⟩ : ∃ n', n = n' + 1 := ⟨n - 1, by omega⟩
 obtain ⟨_, G2, g2, rfl, k2⟩ := rwho_c (n := n') (lim := lim) (h.keep kG) hlfs (by omega) t
 rw [← hn'] at g2
 have k2n := k2.next
 have kH2 := kG.trans k2
 unfold dropC
 cases hw : (whoC C t).2.2 with
 | false =>
  rw [hw] at g2
  obtain ⟨r1, r2, r3⟩ := ret_same (K := fun _ _ => True) (H0 := H) (lim := lim) (k2.cells cx) (k2.cells cr) rfl (by omega) hT.one hP.one
  (repeat (with_reducible first | ((first | apply bindP_intro | apply bind2_intro); (focus (first | rfl | (simp only [walkS, reduceIte, hc, ho, tok_cells, encB_one, n1, n2, ← hG, hl2, lt, g2, r1, r2, r3] <;> rfl)))) | apply cond_t | apply cond_f))
  rw [if_neg (by simp)]
  exact out_same h kH2 (by omega) 1
 | true =>
  rw [hw] at g2
  (repeat (with_reducible first | ((first | apply bindP_intro | apply bind2_intro); (focus (first | rfl | (simp only [walkS, reduceIte, hc, ho, tok_cells, encB_one, n1, n2, ← hG, hl2, lt, g2] <;> rfl)))) | apply cond_t | apply cond_f))
  rw [if_pos rfl]
  exact rdrop_loop (Hb := G2) (H0 := H) (by omega) (k2.cells cx) (by simp [fz_plain hT, fz_plain hP]) (k2.cells ct) (k2.cells cr) rfl (by omega) hlfs (hT.keep kH2) (hP.keep kH2) (fun b hb => by obtain ⟨cs, q1, q2⟩ := hpl b hb; exact ⟨cs, kH2.cells q1, q2⟩) (fun b hb => hT.lt b hb) kH2 (by omega) (by omega) hlim
   (fun v H' hO => hO) n 0 (.sl none 0 (.ex 0)) G2.next [] G2 (by omega) (Nat.zero_le _) (Nat.le_refl _) (.refl _) ⟨⟨fun x hx => by simp at hx, .inl ⟨rfl, rfl⟩⟩, fun _ => rfl⟩ (Nat.le_refl _) rfl
theorem radd_end {K : AVal → Heap → Prop} {bx br : Nat} {vT vP vo : AVal} {bo many : Nat} {x : Ent} {H0 H : Heap} {z : List AVal} (hx : H.cells bx = some [vT, vP]) (hr : H.cells br = some z) (hz : z.length = 2) (hne : bx ≠ br) (hR : R20 H0 (.agg [vT, vP]) C)
  (ho : OwnN H 3 vo ((insT x C.fs).map rowP) bo) (hno : bo ≠ bx ∧ bo ≠ br) (k0 : Keeps2 H0 H) (gx : H0.next ≤ bx) (gr : H0.next ≤ br) (hlim : lim ≤ H0.next)
  (hK : ∀ v H', Out20 H0 H' v (if 4 ≤ many then (9, C) else (0, { C with fs := insT x C.fs })) → K v H') :
  F63_j0 (Ahs.runT ap n) lim N K (.ptr (some (bx, 0))) (.ptr (some (br, 0))) (.int .i64 (many : Int)) vo H := by
 unfold F63_j0
 obtain ⟨uT, uP, e, hT, hP, hpl⟩ := hR.ex
 simp only [AVal.agg.injEq, List.cons.injEq, and_true] at e
 obtain ⟨rfl, rfl⟩ := e
 by_cases hm : 4 ≤ many
 ·have d : decide ((4 : Int) ≤ (many : Int)) = true := dT (by omega)
  obtain ⟨r1, r2, r3⟩ := ret_same (K := K) (H0 := H0) (lim := lim) hx hr hz (by omega) hT.one hP.one
  rw [if_pos hm] at hK
  (repeat (with_reducible first | ((first | apply bindP_intro | apply bind2_intro); (focus (first | rfl | (simp only [walkS, reduceIte, d, r1, r2, r3] <;> rfl)))) | apply cond_t | apply cond_f))
  exact hK _ _ (out_same hR k0 gr 9)
 ·have d : decide ((4 : Int) ≤ (many : Int)) = false := dF (by omega)
  obtain ⟨e1, e2, e3, e4, e5⟩ := p_end (lim := lim) (H0 := H0) hx hr hz hne (by omega) (by omega) (hT.keep k0) ho (fun b hb => by have := hT.lt b hb; omega) hno k0 gx gr
  rw [if_neg hm] at hK
  (repeat (with_reducible first | ((first | apply bindP_intro | apply bind2_intro); (focus (first | rfl | (simp only [walkS, reduceIte, d, e1, e2, e3, e4] <;> rfl)))) | apply cond_t | apply cond_f))
  exact hK _ _ e5
theorem radd_loop {K : AVal → Heap → Prop} {bx br bq s : Nat} {vT vP : AVal} {x : Ent} {H0 : Heap} {z : List AVal} (hx : Hb.cells bx = some [vT, vP]) (hr : Hb.cells br = some z) (hq : Hb.cells bq = some (rowP x)) (hz : z.length = 2) (hne : bx ≠ br) (hlfs : C.fs.length ≤ 1000) (hR : R20 H0 (.agg [vT, vP]) C)
  (k0 : Keeps2 H0 Hb) (gx : H0.next ≤ bx) (gr : H0.next ≤ br) (hlim : lim ≤ H0.next)
  (hK : ∀ v H', Out20 H0 H' v (if 4 ≤ manyC C.fs s then (9, C) else (0, { C with fs := insT x C.fs })) → K v H') :
  ∀ (f i many : Nat) (done : Bool) (vo : AVal) (bo : Nat) (out : List Ent) (H : Heap), C.fs.length < f + i → i ≤ C.fs.length → many ≤ i → Keeps2 Hb H → OwnN H 3 vo (out.map rowP) bo → Hb.next ≤ bo → out ++ insP x done (C.fs.drop i) = insT x C.fs → many + manyC (C.fs.drop i) s = manyC C.fs s →
   F63_l0 (Ahs.runT ap n) lim N K f (.int .u8 (s : Nat)) (.ptr (some (bx, 0))) (.ptr (some (br, 0))) (.int .i64 (many : Int)) (.ptr (some (bq, 0))) vo (.bool done) (.int .i64 (i : Int)) H
 | 0, i, many, done, vo, bo, out, H, h1, h2, _, _, _, _, _, _ => by exfalso; omega
 | f + 1, i, many, done, vo, bo, out, H, hf, hi, hml, kb, ho, hbo, hout, hcnt => by
  show F63_s0 _ _ _ _ (F63_l0 _ _ _ _ f) _ _ _ _ _ _ _ _ _
  unfold F63_s0
  obtain ⟨uT, uP, e, hT, hP, hpl⟩ := hR.ex
  simp only [AVal.agg.injEq, List.cons.injEq, and_true] at e
  obtain ⟨rfl, rfl⟩ := e
  have hsl := ((hP.keep k0).keep kb).sl
  have kbn := kb.next
  have k0n := k0.next
  have lx := Heap.cells_lt hx
  have lr := Heap.cells_lt hr
  have hld : aload H none (.ptr (some (bx, 1))) = some vP := by rw [aload_one (kb.cells hx)]; rfl
  have hal : alen false vP = some (.int .i64 (C.fs.length : Int)) := by have := hsl.len; rw [List.length_map] at this; exact this
  have hlout : out.length ≤ 2000 := by
   have := congrArg List.length hout
   rw [List.length_append, insT_len] at this
   omega
  have row : ∀ (G : Heap) (vo : AVal) (bo : Nat) (out : List Ent) (x : Ent), Keeps2 Hb G → OwnN G 3 vo (out.map rowP) bo → Hb.next ≤ bo → out.length ≤ 3000 →
    ∃ v' G' b', aappend lim (G.push (.cells (rowP x))) zafa8ae 24 false vo (.sl (some (G.next, 0)) 1 (.ex 1)) = some (v', G') ∧ OwnN G' 3 v' ((out ++ [x]).map rowP) b' ∧ Hb.next ≤ b' ∧ Keeps2 Hb G' := fun G vo bo out x kG oG bG hl => by
   obtain ⟨v', G', b', q1, q2, q3, q4, q5⟩ := push_own (lim := lim) (sz := 3) (bytes := 24) (zero := zafa8ae) oG bG (by omega) kG rfl (by decide) (rowP_ok x) (by rw [List.length_map]; unfold room; omega) (by rw [List.length_map]; unfold room; omega)
   have kGn := kG.next
   exact ⟨v', G', b', q1, by rw [List.map_append]; exact q2, by omega, q4⟩
  have hqv : ∀ G, Keeps2 Hb G → aload G (some 3) (.ptr (some (bq, 0))) = some (.agg (rowP x)) := fun G kG => aload_all (kG.cells hq) rfl
  have hfx := fill_row (z := zafa8ae) (sz := 3) rfl (rowP_ok x).1
  have fin : ∀ (G : Heap) (vo : AVal) (bo : Nat), Keeps2 Hb G → OwnN G 3 vo ((insT x C.fs).map rowP) bo → Hb.next ≤ bo → manyC C.fs s = many → F63_j0 (Ahs.runT ap n) lim N K (.ptr (some (bx, 0))) (.ptr (some (br, 0))) (.int .i64 (many : Int)) vo G := fun G vo bo kG oG bG hmm => by
   rw [hmm] at hK
   exact radd_end (H0 := H0) (kG.cells hx) (kG.cells hr) hz hne hR oG (by omega) (k0.trans kG) gx gr hlim hK
  by_cases hil : i < C.fs.length
  ·have hd : decide ((i : Int) < (C.fs.length : Int)) = true := dT (by omega)
   obtain ⟨y, hy⟩ : ∃ y, y = C.fs[i] := ⟨_, rfl⟩
   have hx5 : C.fs[i]? = some y := by rw [hy]; exact List.getElem?_eq_getElem hil
   have hxr : (C.fs.map rowP)[i]? = some (rowP y) := by rw [List.getElem?_map, hx5]; rfl
   have hmlt : i < (C.fs.map rowP).length := by rw [List.length_map]; exact hil
   have had := hsl.addr (k := .i64) (i := i) hmlt
   have a0 : faddrO 0 (Ahs.slot vP (i * 3)) = some (Ahs.slot vP (i * 3)) := faddr_slot hsl (by omega) (i * 3) 0
   have a1 : faddrO 1 (Ahs.slot vP (i * 3)) = some (Ahs.slot vP (i * 3 + 1)) := faddr_slot hsl (by omega) (i * 3) 1
   have l0 : aload H none (Ahs.slot vP (i * 3)) = some (.str y.1.1) := hsl.loadf hxr (f := 0) (by omega)
   have l1 : aload H none (Ahs.slot vP (i * 3 + 1)) = some (.int .u8 (y.2.1 : Int)) := hsl.loadf hxr (f := 1) (by omega)
   have lq0 : aload H none (.ptr (some (bq, 0))) = some (.str x.1.1) := by rw [aload_one (kb.cells hq)]; rfl
   have hi1 : IntKind.i64.wrap ((i : Int) + 1) = ((i + 1 : Nat) : Int) := i64_succ (by omega)
   have hm1 : IntKind.i64.wrap ((many : Int) + 1) = ((many + 1 : Nat) : Int) := i64_succ (by omega)
   have hfr := fill_row (z := zafa8ae) (sz := 3) rfl (rowP_ok y).1
   have hdrop : C.fs.drop i = y :: C.fs.drop (i + 1) := by rw [hy]; exact List.drop_eq_getElem_cons hil
   rw [hdrop] at hout hcnt
   have hgs := gtS y.1.1 x.1.1
   have mid : ∀ many', many' ≤ i + 1 → many' + manyC (C.fs.drop (i + 1)) s = manyC C.fs s → F63_j3 (Ahs.runT ap n) lim N K (F63_l0 (Ahs.runT ap n) lim N K f) (.int .u8 (s : Nat)) (.ptr (some (bx, 0))) (.ptr (some (br, 0))) (.int .i64 (many' : Int)) (.ptr (some (bq, 0))) vo (.bool done) (.int .i64 (i : Int)) H := fun many' hm' hc' => by
    have next : ∀ (G : Heap) (vo : AVal) (bo : Nat) (out : List Ent) (done : Bool), Keeps2 Hb G → OwnN G 3 vo (out.map rowP) bo → Hb.next ≤ bo → out.length ≤ 3000 → (out ++ [y]) ++ insP x done (C.fs.drop (i + 1)) = insT x C.fs →
      F63_j2 (Ahs.runT ap n) lim N K (F63_l0 (Ahs.runT ap n) lim N K f) (.int .u8 (s : Nat)) (.ptr (some (bx, 0))) (.ptr (some (br, 0))) (.int .i64 (many' : Int)) (.ptr (some (bq, 0))) vo (.bool done) (.int .i64 (i : Int)) G := fun G vo bo out done kG oG bG hl he => by
     unfold F63_j2
     have hslG := ((hP.keep k0).keep kG).sl
     have hldG : aload G none (.ptr (some (bx, 1))) = some vP := by rw [aload_one (kG.cells hx)]; rfl
     have hadG := hslG.addr (k := .i64) (i := i) hmlt
     have l3 : aload G (some 3) (Ahs.slot vP (i * 3)) = some (.agg (rowP y)) := hslG.load hxr
     obtain ⟨v', G', b', q1, q2, q3, q4⟩ := row G vo bo out y kG oG bG (by omega)
     (repeat (with_reducible first | ((first | apply bindP_intro | apply bind2_intro); (focus (first | rfl | (simp only [walkS, reduceIte, hldG, hadG, l3, hfr, q1, hi1] <;> rfl)))) | apply cond_t | apply cond_f))
     exact radd_loop hx hr hq hz hne hlfs hR k0 gx gr hlim hK f (i + 1) many' done v' b' (out ++ [y]) G' (by omega) (by omega) (by omega) q4 q2 q3 he hc'
    unfold F63_j3
    cases done with
    | true =>
     (repeat (with_reducible first | ((first | apply bindP_intro | apply bind2_intro); (focus (first | rfl | (simp only [walkS, reduceIte] <;> rfl)))) | apply cond_t | apply cond_f))
     exact next H vo bo out true kb ho hbo (by omega) (by rw [← hout]; simp [insP])
    | false =>
     by_cases hgt : x.1.1 < y.1.1
     ·have e1 : decide (x.1.1 < y.1.1) = true := dT hgt
      rw [e1] at hgs
      obtain ⟨v', G', b', q1, q2, q3, q4⟩ := row H vo bo out x kb ho hbo (by omega)
      (repeat (with_reducible first | ((first | apply bindP_intro | apply bind2_intro); (focus (first | rfl | (simp only [walkS, reduceIte, hld, had, a0, l0, lq0, hgs, hqv H kb, hfx, q1] <;> rfl)))) | apply cond_t | apply cond_f))
      refine next G' v' b' (out ++ [x]) true q4 q2 q3 (by rw [List.length_append]; simp; omega) ?_
      rw [← hout]
      unfold insP
      rw [if_pos hgt]
      simp
     ·have e1 : decide (x.1.1 < y.1.1) = false := dF hgt
      rw [e1] at hgs
      (repeat (with_reducible first | ((first | apply bindP_intro | apply bind2_intro); (focus (first | rfl | (simp only [walkS, reduceIte, hld, had, a0, l0, lq0, hgs] <;> rfl)))) | apply cond_t | apply cond_f))
      refine next H vo bo out false kb ho hbo (by omega) ?_
      rw [← hout]
      conv => rhs; unfold insP
      rw [if_neg hgt]
      simp
   have hcc : manyC (y :: C.fs.drop (i + 1)) s = manyC (C.fs.drop (i + 1)) s + if y.2.1 = s then 1 else 0 := by
    unfold manyC
    rw [List.countP_cons]
    simp
   rw [hcc] at hcnt
   by_cases he : y.2.1 = s
   ·have e1 : ((y.2.1 : Int) == (s : Int)) = true := eqT (by omega)
    rw [if_pos he] at hcnt
    (repeat (with_reducible first | ((first | apply bindP_intro | apply bind2_intro); (focus (first | rfl | (simp only [walkS, reduceIte, hld, hal, hd, had, a1, l1, e1, hm1] <;> rfl)))) | apply cond_t | apply cond_f))
    exact mid (many + 1) (by omega) (by omega)
   ·have e1 : ((y.2.1 : Int) == (s : Int)) = false := eqF (by omega)
    rw [if_neg he] at hcnt
    (repeat (with_reducible first | ((first | apply bindP_intro | apply bind2_intro); (focus (first | rfl | (simp only [walkS, reduceIte, hld, hal, hd, had, a1, l1, e1] <;> rfl)))) | apply cond_t | apply cond_f))
    exact mid many (by omega) (by omega)
  ·have hd : decide ((i : Int) < (C.fs.length : Int)) = false := dF (by omega)
   rw [List.drop_eq_nil_of_le (by omega)] at hout hcnt
   have hmm : manyC C.fs s = many := by rw [← hcnt]; simp [manyC]
   (repeat (with_reducible first | ((first | apply bindP_intro | apply bind2_intro); (focus (first | rfl | (simp only [walkS, reduceIte, hld, hal, hd] <;> rfl)))) | apply cond_t | apply cond_f))
   unfold F63_j1
   cases done with
   | true =>
    have he : out = insT x C.fs := by rw [← hout]; simp [insP]
    rw [he] at ho
    (repeat (with_reducible first | ((first | apply bindP_intro | apply bind2_intro); (focus (first | rfl | (simp only [walkS, reduceIte] <;> rfl)))) | apply cond_t | apply cond_f))
    exact fin H vo bo kb ho hbo hmm
   | false =>
    obtain ⟨v', G', b', q1, q2, q3, q4⟩ := row H vo bo out x kb ho hbo (by omega)
    have he : out ++ [x] = insT x C.fs := by rw [← hout]; rfl
    rw [he] at q2
    (repeat (with_reducible first | ((first | apply bindP_intro | apply bind2_intro); (focus (first | rfl | (simp only [walkS, reduceIte, hqv H kb, hfx, q1] <;> rfl)))) | apply cond_t | apply cond_f))
    exact fin G' v' b' q4 q2 q3 hmm
theorem radd_c {s r : Nat} {H : Heap} {v : AVal} (h : R20 H v C) (hlfs : C.fs.length ≤ 1000) (hlim : lim ≤ H.next) (hs : s < 256) (hr : r < 256) (hn : 2020 ≤ n) (t : Tok) : ∃ o H', Ahs.runT ap (n + 1) lim (.fn 63) [v, .int .u8 (s : Nat), .agg (encB t.1), .int .u8 (r : Nat)] H = some (o, H') ∧ Out20 H H' o (prinC C s t r) := by
 obtain ⟨vT, vP, rfl, hT, hP, hpl⟩ := h.ex
 refine F63_run a63 ?_
 unfold F63
 have hc : (AVal.agg [vT, vP]).cells = [vT, vP] := rfl
 have ho : ([vT, vP].all fun v => v.one) = true := by simp [hT.one.1, hP.one.1]
 have n1 : (H.push (.cells [vT, vP])).next = H.next + 1 := Heap.next_push _ _
 have n2 : ((H.push (.cells [vT, vP])).push (.cells (encB t.1))).next = H.next + 2 := by rw [Heap.next_push, n1]
 obtain ⟨G, hG⟩ : ∃ G, G = ((H.push (.cells [vT, vP])).push (.cells (encB t.1))).push (.cells zf3f7a3) := ⟨_, rfl⟩
 have kG : Keeps2 H G := by rw [hG]; exact ((Keeps2.push _ _).trans (.push _ _)).trans (.push _ _)
 have nG : G.next = H.next + 3 := by rw [hG, Heap.next_push, n2]
 have cx : G.cells H.next = some [vT, vP] := by rw [hG]; exact cells_push_old (cells_push_old (cells_push_new H _))
 have ct : G.cells (H.next + 1) = some (encB t.1) := by rw [hG, ← n1]; exact cells_push_old (cells_push_new _ _)
 have cr : G.cells (H.next + 2) = some zf3f7a3 := by rw [hG, ← n2]; exact cells_push_new _ _
 have lt : aload G (some 8) (.ptr (some (H.next + 1, 0))) = some (.agg (encB t.1)) := aload_all ct (by rw [encB_len, t.2])
 have same : ∀ (G' : Heap) (code : Int), Keeps2 G G' → (aload G' (some 2) (.ptr (some (H.next, 0))) = some (.agg [vT, vP]) ∧ astore lim G' 2 (.ptr (some (H.next + 2, 0))) (.agg [vT, vP]) = some (G'.set (H.next + 2) (.cells [vT, vP])) ∧ aload (G'.set (H.next + 2) (.cells [vT, vP])) (some 2) (.ptr (some (H.next + 2, 0))) = some (.agg [vT, vP])) ∧
   Out20 H (G'.set (H.next + 2) (.cells [vT, vP])) (.tup [.agg [vT, vP], .int .u8 code]) (code, C) := fun G' code k' =>
  ⟨ret_same (K := fun _ _ => True) (H0 := H) (lim := lim) (k'.cells cx) (k'.cells cr) rfl (by omega) hT.one hP.one, out_same h (kG.trans k') (by omega) code⟩
 by_cases h4 : 4 ≤ s
 ·have d4 : decide ((3 : Int) < (s : Int)) = true := dT (by omega)
  obtain ⟨⟨r1, r2, r3⟩, o⟩ := same G 11 (.refl _)
  (repeat (with_reducible first | ((first | apply bindP_intro | apply bind2_intro); (focus (first | rfl | (simp only [walkS, reduceIte, hc, ho, tok_cells, encB_one, n1, n2, d4, ← hG, r1, r2, r3] <;> rfl)))) | apply cond_t | apply cond_f))
  rw [show prinC C s t r = (11, C) by unfold prinC; rw [if_pos (.inl h4)]]
  exact o
 have d4 : decide ((3 : Int) < (s : Int)) = false := dF (by omega)
 by_cases hr1 : r < 1
 ·have d1 : decide ((r : Int) < 1) = true := dT (by omega)
  obtain ⟨⟨r1, r2, r3⟩, o⟩ := same G 11 (.refl _)
  (repeat (with_reducible first | ((first | apply bindP_intro | apply bind2_intro); (focus (first | rfl | (simp only [walkS, reduceIte, hc, ho, tok_cells, encB_one, n1, n2, d4, d1, ← hG, r1, r2, r3] <;> rfl)))) | apply cond_t | apply cond_f))
  rw [show prinC C s t r = (11, C) by unfold prinC; rw [if_pos (.inr (.inl hr1))]]
  exact o
 have d1 : decide ((r : Int) < 1) = false := dF (by omega)
 by_cases hr3 : 3 < r
 ·have d3 : decide ((3 : Int) < (r : Int)) = true := dT (by omega)
  obtain ⟨⟨r1, r2, r3⟩, o⟩ := same G 11 (.refl _)
  (repeat (with_reducible first | ((first | apply bindP_intro | apply bind2_intro); (focus (first | rfl | (simp only [walkS, reduceIte, hc, ho, tok_cells, encB_one, n1, n2, d4, d1, d3, ← hG, r1, r2, r3] <;> rfl)))) | apply cond_t | apply cond_f))
  rw [show prinC C s t r = (11, C) by unfold prinC; rw [if_pos (.inr (.inr (.inl hr3)))]]
  exact o
 have d3 : decide ((3 : Int) < (r : Int)) = false := dF (by omega)
 obtain ⟨n', hn'⟩ : ∃ n', n = n' + 1 := ⟨n - 1, by omega⟩
 obtain ⟨_, G1, g1, rfl, k1⟩ := text_c (H := G) (n := n') (lim := lim) t (by omega)
 rw [← hn'] at g1
 by_cases hop : t = opTok
 ·have eo : (t.1 == [111, 112, 101, 114, 97, 116, 111, 114]) = true := by rw [hop]; rfl
  obtain ⟨⟨r1, r2, r3⟩, o⟩ := same G1 11 k1
  (repeat (with_reducible first | ((first | apply bindP_intro | apply bind2_intro); (focus (first | rfl | (simp only [walkS, reduceIte, hc, ho, tok_cells, encB_one, n1, n2, d4, d1, d3, ← hG, lt, g1, eo, r1, r2, r3] <;> rfl)))) | apply cond_t | apply cond_f))
  rw [show prinC C s t r = (11, C) by unfold prinC; rw [if_pos (.inr (.inr (.inr hop)))]]
  exact o
 have eo : (t.1 == [111, 112, 101, 114, 97, 116, 111, 114]) = false := by
  have : ¬ t.1 = [111, 112, 101, 114, 97, 116, 111, 114] := fun e => hop (Subtype.ext e)
  simpa using this
 have hno : ¬ (4 ≤ s ∨ r < 1 ∨ 3 < r ∨ t = opTok) := by rintro (q | q | q | q) <;> first | omega | exact hop q
 have k1n := k1.next
 have hl1 : aload G1 (some 2) (.ptr (some (H.next, 0))) = some (.agg [vT, vP]) := aload_all (k1.cells cx) rfl
 obtain ⟨_, G3, g3, rfl, k3⟩ := find_c (n := n') (lim := lim) (s := s) (h.keep (kG.trans k1)) (by omega) hs (by omega)
 rw [← hn'] at g3
 have k3n := k3.next
 have hqc : quotaC C s = if 0 < (C.q s).k then (C.q s, true) else (noQ, false) := by
  unfold quotaC
  by_cases hk : 0 < (C.q s).k
  ·rw [if_pos ⟨by omega, hk⟩, if_pos hk]
  ·rw [if_neg (fun e => hk e.2), if_neg hk]
 have hst : astore lim (G3.push (.cells z547173)) 4 (.ptr (some (G3.next, 0))) (.agg (encQ (quotaC C s).1)) = some (G3.push (.cells (encQ (quotaC C s).1))) := astore_new (cs := z547173) (x := .agg (encQ (quotaC C s).1)) (by omega) rfl rfl rfl
 have k4 : Keeps2 G3 (G3.push (.cells (encQ (quotaC C s).1))) := .push _ _
 generalize hG4 : G3.push (.cells (encQ (quotaC C s).1)) = G4 at *
 have k14 := (k1.trans k3).trans k4
 have k4n := k4.next
 by_cases hk : 0 < (C.q s).k
 case neg =>
  rw [if_neg hk] at hqc
  have e2 : (quotaC C s).2 = false := by rw [hqc]
  rw [e2] at g3
  obtain ⟨⟨r1, r2, r3⟩, o⟩ := same G4 1 k14
  (repeat (with_reducible first | ((first | apply bindP_intro | apply bind2_intro); (focus (first | rfl | (simp only [walkS, reduceIte, hc, ho, tok_cells, encB_one, n1, n2, d4, d1, d3, ← hG, lt, g1, eo, hl1, g3, hst, hG4, r1, r2, r3] <;> rfl)))) | apply cond_t | apply cond_f))
  rw [show prinC C s t r = (1, C) by unfold prinC; rw [if_neg hno, if_neg hk]]
  exact o
 rw [if_pos hk] at hqc
 have e2 : (quotaC C s).2 = true := by rw [hqc]
 rw [e2] at g3
 have hl4 : aload G4 (some 2) (.ptr (some (H.next, 0))) = some (.agg [vT, vP]) := aload_all (k14.cells cx) rfl
 have lt4 : aload G4 (some 8) (.ptr (some (H.next + 1, 0))) = some (.agg (encB t.1)) := aload_all (k14.cells ct) (by rw [encB_len, t.2])
 obtain ⟨_, G5, g5, rfl, k5⟩ := rwho_c (n := n') (lim := lim) (h.keep (kG.trans k14)) hlfs (by omega) t
 rw [← hn'] at g5
 have k15 := k14.trans k5
 have k5n := k5.next
 cases hw : (whoC C t).2.2 with
 | true =>
  rw [hw] at g5
  obtain ⟨⟨r1, r2, r3⟩, o⟩ := same G5 10 k15
  (repeat (with_reducible first | ((first | apply bindP_intro | apply bind2_intro); (focus (first | rfl | (simp only [walkS, reduceIte, hc, ho, tok_cells, encB_one, n1, n2, d4, d1, d3, ← hG, lt, g1, eo, hl1, g3, hst, hG4, hl4, lt4, g5, r1, r2, r3] <;> rfl)))) | apply cond_t | apply cond_f))
  rw [show prinC C s t r = (10, C) by unfold prinC; rw [if_neg hno, if_pos hk, hw, if_pos rfl]]
  exact o
 | false =>
  rw [hw] at g5
  have lt5 := aload_keep k5 lt4
  obtain ⟨_, G6, g6, rfl, k6⟩ := text_c (H := G5) (n := n') (lim := lim) t (by omega)
  rw [← hn'] at g6
  have k6n := k6.next
  have hb : buildO zafa8ae [(0, 1, .str t.1), (1, 1, .int .u8 (s : Nat)), (2, 1, .int .u8 (r : Nat))] = some (.agg (rowP (t, s, r))) := rfl
  have hsx : astore lim (G6.push (.cells zafa8ae)) 3 (.ptr (some (G6.next, 0))) (.agg (rowP (t, s, r))) = some (G6.push (.cells (rowP (t, s, r)))) := astore_new (cs := zafa8ae) (x := .agg (rowP (t, s, r))) (by omega) rfl rfl rfl
  have k7 : Keeps2 G6 (G6.push (.cells (rowP (t, s, r)))) := .push _ _
  have k17 := (k15.trans k6).trans k7
  have n7 : (G6.push (.cells (rowP (t, s, r)))).next = G6.next + 1 := Heap.next_push _ _
  (repeat (with_reducible first | ((first | apply bindP_intro | apply bind2_intro); (focus (first | rfl | (simp only [walkS, reduceIte, hc, ho, tok_cells, encB_one, n1, n2, d4, d1, d3, ← hG, lt, g1, eo, hl1, g3, hst, hG4, hl4, lt4, g5, lt5, g6, hb, hsx] <;> rfl)))) | apply cond_t | apply cond_f))
  rw [show prinC C s t r = if 4 ≤ manyC C.fs s then (9, C) else (0, { C with fs := insT (t, s, r) C.fs }) by unfold prinC; rw [if_neg hno, if_pos hk, hw, if_neg (by simp)]]
  exact radd_loop (Hb := G6.push (.cells (rowP (t, s, r)))) (H0 := H) (x := (t, s, r)) (k17.cells cx) (k17.cells cr) (cells_push_new G6 _) rfl (by omega) hlfs h (kG.trans k17) (by omega) (by omega) hlim (fun v H' hO => hO) n 0 0 false (.sl none 0 (.ex 0)) (G6.next + 1) [] _ (by omega) (Nat.zero_le _) (Nat.le_refl _) (.refl _)
   ⟨⟨fun x hx => by simp at hx, .inl ⟨rfl, rfl⟩⟩, fun _ => rfl⟩ (by omega) (by rw [List.drop_zero, insP_eq]; rfl) (by rw [List.drop_zero, Nat.zero_add])
end
theorem fz_other {sz : Nat} {H H' : Heap} {v : AVal} {xs : List (List AVal)} {c : Nat} {z z' : List AVal} (h : Fz H sz v xs) (hf : Fram (fun b => b = c) H H') (hz : H.cells c = some z) (hz' : H'.cells c = some z') (hl : z'.length = z.length) (hno : slBlk v = some c → xs ≠ [] → False) : Fz H' sz v xs := by
 by_cases hc : slBlk v = some c
 ·have hxs : xs = [] := by
   cases xs with
   | nil => rfl
   | cons x xs => exact (hno hc (by simp)).elim
  subst hxs
  refine ⟨fun _ hx => by simp at hx, ?_⟩
  rcases h.at' with ⟨rfl, _⟩ | ⟨b, o, cp, cs, rfl, h2, h3, h4, h5⟩
  ·simp [slBlk] at hc
  ·simp only [slBlk, Option.some.injEq] at hc
   subst hc
   rw [hz] at h3
   obtain rfl := Option.some.inj h3
   exact .inr ⟨b, o, cp, z', rfl, h2, hz', by rw [hl]; exact h4, by simp⟩
 ·exact h.frame hf fun b hb e => hc (by rw [hb, e])
theorem R20.set2 {H : Heap} {v : AVal} {C : PCat} {c : Nat} {z z' : List AVal} (h : R20 H v C) (hz : H.cells c = some z) (hl : z.length = 2) (hl' : z'.length = 2) (hp : z'.all plainV = true) : R20 (H.set c (.cells z')) v C := by
 obtain ⟨vT, vP, e, hT, hP, hpl⟩ := h.ex
 have hf : Fram (fun b => b = c) H (H.set c (.cells z')) := Fram.set (S := fun b => b = c) rfl
 have hz2 : (H.set c (.cells z')).cells c = some z' := cells_set_same (Heap.cells_lt hz)
 have big : ∀ {sz : Nat} {v : AVal} {xs : List (List AVal)}, 3 ≤ sz → Fz H sz v xs → slBlk v = some c → xs ≠ [] → False := fun {sz v xs} hsz hv hc hne => by
  rcases hv.at' with ⟨rfl, _⟩ | ⟨b, o, cp, cs, rfl, h2, h3, h4, h5⟩
  ·simp [slBlk] at hc
  ·simp only [slBlk, Option.some.injEq] at hc
   subst hc
   rw [hz] at h3
   obtain rfl := Option.some.inj h3
   have : 1 ≤ xs.length := List.length_pos_iff.2 hne
   have := Nat.mul_le_mul this hsz
   omega
 refine ⟨vT, vP, e, fz_other hT hf hz hz2 (by rw [hl, hl']) (big (by omega) hT), fz_other hP hf hz hz2 (by rw [hl, hl']) (big (by omega) hP), fun b hb => ?_⟩
 by_cases hbc : b = c
 ·subst hbc
  exact ⟨z', hz2, hp⟩
 ·obtain ⟨cs, q1, q2⟩ := hpl b hb
  exact ⟨cs, cells_set_other q1 hbc, q2⟩
theorem flatten_head {sz : Nat} {cs : List AVal} {o : Nat} {x : List AVal} {xs : List (List AVal)} (hl : o + (x :: xs).length * sz ≤ cs.length) (h : (cs.drop o).take ((x :: xs).length * sz) = (x :: xs).flatten) (hx : x.length = sz) (hs : 0 < sz) : cs[o]? = x[0]? := by
 have h0 : ((cs.drop o).take ((x :: xs).length * sz))[0]? = ((x :: xs).flatten)[0]? := by rw [h]
 have hp : 0 < (x :: xs).length * sz := Nat.mul_pos (by simp) hs
 rw [List.getElem?_take, if_pos hp, List.getElem?_drop, List.flatten_cons, List.getElem?_append_left (by omega), Nat.add_zero] at h0
 exact h0
theorem cat_no {C : PCat} {m o : Nat} {v : AVal} (h : (catCells C m)[o]? = some v) : (∀ n, v ≠ .int .u8 n) ∧ ∀ s, v ≠ .str s := by
 have hm := List.mem_of_getElem? h
 unfold catCells at hm
 simp only [List.mem_cons, List.not_mem_nil, or_false] at hm
 rcases hm with rfl | rfl | rfl | rfl | rfl | rfl | rfl | rfl | rfl | rfl | rfl | rfl | rfl | rfl | rfl | rfl | rfl <;> exact ⟨fun n e => by simp at e, fun s e => by simp at e⟩
theorem R20.cat {H H' : Heap} {v : AVal} {C D D' : PCat} {b m : Nat} (h : R20 H v C) (hc : CatAt H b m D) (hc' : CatAt H' b m D') (hf : Fram (cft b m) H H') : R20 H' v C := by
 obtain ⟨vT, vP, e, hT, hP, hpl⟩ := h.ex
 have hmap : ∀ c cs, H.cells c = some cs → c ≠ m := fun c cs hcs e => by
  obtain ⟨vs, clk, g, _⟩ := hc.map.ex
  subst e
  rw [Heap.cells_eq, g] at hcs
  simp at hcs
 have go : ∀ {sz : Nat} {v : AVal} {xs : List (List AVal)}, 0 < sz → Fz H sz v xs → (∀ x ∈ xs, ∃ w, x[0]? = some w ∧ ((∃ n, w = .int .u8 n) ∨ ∃ s, w = .str s)) → Fz H' sz v xs := fun {sz v xs} hsz hv hx => by
  refine ⟨hv.each, ?_⟩
  rcases hv.at' with h1 | ⟨c, o, cp, cs, h1, h2, h3, h4, h5⟩
  ·exact .inl h1
  ·by_cases hb : c = b
   ·subst hb
    rw [hc.cells] at h3
    obtain rfl := Option.some.inj h3
    cases xs with
    | nil =>
     have h4' : o + 0 * sz ≤ 17 := h4
     exact .inr ⟨c, o, cp, _, h1, h2, hc'.cells, by show o + 0 * sz ≤ 17; exact h4', by simp⟩
    | cons x xs =>
     exfalso
     obtain ⟨w, q1, q2⟩ := hx x (by simp)
     have := flatten_head h4 h5 (hv.each x (by simp)).1 hsz
     rw [q1] at this
     have hn := cat_no this
     rcases q2 with ⟨n, rfl⟩ | ⟨s, rfl⟩
     ·exact hn.1 n rfl
     ·exact hn.2 s rfl
   ·refine .inr ⟨c, o, cp, cs, h1, h2, hf.cells h3 (fun e => ?_), h4, h5⟩
    rcases e with e | e
    ·exact hb e
    ·exact hmap c cs h3 e
 refine ⟨vT, vP, e, go (by decide) hT fun x hx => ?_, go (by decide) hP fun x hx => ?_, fun c hb => ?_⟩
 ·obtain ⟨y, _, rfl⟩ := List.mem_map.1 hx
  exact ⟨_, rfl, .inl ⟨_, rfl⟩⟩
 ·obtain ⟨y, _, rfl⟩ := List.mem_map.1 hx
  exact ⟨_, rfl, .inr ⟨_, rfl⟩⟩
 ·obtain ⟨cs, q1, q2⟩ := hpl c hb
  by_cases hcb : c = b
  ·subst hcb
   exact ⟨_, hc'.cells, rfl⟩
  ·exact ⟨cs, hf.cells q1 (fun e => by rcases e with e | e; exact hcb e; exact hmap c cs q1 e), q2⟩
section
variable {n lim N : Nat} {C : PCat}
theorem given_c {H : Heap} (hlim : lim ≤ H.next) (q : Quo) : ∃ v H', Ahs.runT ap (n + 1) lim (.fn 33) [.agg (encQ q)] H = some (v, H') ∧ v = .agg (encQ q) ∧ Keeps2 H H' := by
 refine F33_run a33 ?_
 unfold F33
 have hcq : (AVal.agg (encQ q)).cells = encQ q := rfl
 have hoq : ((encQ q).all fun v => v.one) = true := rfl
 have k1 : Keeps2 H (H.push (.cells (encQ q))) := .push _ _
 have n1 : (H.push (.cells (encQ q))).next = H.next + 1 := Heap.next_push _ _
 have k2 : Keeps2 (H.push (.cells (encQ q))) ((H.push (.cells (encQ q))).push (.cells z547173)) := .push _ _
 have c2 := k2.cells (cells_push_new H (encQ q))
 have l0 : aload ((H.push (.cells (encQ q))).push (.cells z547173)) none (.ptr (some (H.next, 0))) = some (.int .i64 q.k) := by rw [aload_one c2]; rfl
 have l1 : aload ((H.push (.cells (encQ q))).push (.cells z547173)) none (.ptr (some (H.next, 1))) = some (.int .i64 q.b) := by rw [aload_one c2]; rfl
 have l2 : aload ((H.push (.cells (encQ q))).push (.cells z547173)) none (.ptr (some (H.next, 2))) = some (.int .i64 q.r) := by rw [aload_one c2]; rfl
 have l3 : aload ((H.push (.cells (encQ q))).push (.cells z547173)) none (.ptr (some (H.next, 3))) = some (.int .i64 q.u) := by rw [aload_one c2]; rfl
 have hb : buildO z547173 [(0, 1, .int .i64 q.k), (1, 1, .int .i64 q.b), (2, 1, .int .i64 q.r), (3, 1, .int .i64 q.u)] = some (.agg (encQ q)) := rfl
 have hst : astore lim ((H.push (.cells (encQ q))).push (.cells z547173)) 4 (.ptr (some ((H.push (.cells (encQ q))).next, 0))) (.agg (encQ q)) = some ((H.push (.cells (encQ q))).push (.cells (encQ q))) := astore_new (cs := z547173) (x := .agg (encQ q)) (by omega) rfl rfl rfl
 have hld : aload ((H.push (.cells (encQ q))).push (.cells (encQ q))) (some 4) (.ptr (some ((H.push (.cells (encQ q))).next, 0))) = some (.agg (encQ q)) := aload_newA _ rfl
 (repeat (with_reducible first | ((first | apply bindP_intro | apply bind2_intro); (focus (first | rfl | (simp only [walkS, reduceIte, hcq, hoq, l0, l1, l2, l3, hb, hst, hld] <;> rfl)))) | apply cond_t | apply cond_f))
 exact ⟨rfl, k1.trans (.push _ _)⟩
theorem said_c {H : Heap} {v : AVal} {a : PAct} (h : R20 H v C) (hok : OkC C) (ha : WfA a) (hlim : lim ≤ H.next) (hn : 2030 ≤ n) : ∃ r H', Ahs.runT ap (n + 1) lim (.fn 30) [v, .agg (encA a)] H = some (r, H') ∧ Out20 H H' r (actC C a) := by
 obtain ⟨vT, vP, rfl, hT, hP, hpl⟩ := h.ex
 refine F30_run a30 ?_
 unfold F30
 have hml := many_le hok
 have hc : (AVal.agg [vT, vP]).cells = [vT, vP] := rfl
 have ho : ([vT, vP].all fun v => v.one) = true := by simp [hT.one.1, hP.one.1]
 have hca : (AVal.agg (encA a)).cells = encA a := rfl
 have n1 : (H.push (.cells [vT, vP])).next = H.next + 1 := Heap.next_push _ _
 have n2 : ((H.push (.cells [vT, vP])).push (.cells (encA a))).next = H.next + 2 := by rw [Heap.next_push, n1]
 obtain ⟨G, hG⟩ : ∃ G, G = ((H.push (.cells [vT, vP])).push (.cells (encA a))).push (.cells zf3f7a3) := ⟨_, rfl⟩
 have kG : Keeps2 H G := by rw [hG]; exact ((Keeps2.push _ _).trans (.push _ _)).trans (.push _ _)
 have nG : G.next = H.next + 3 := by rw [hG, Heap.next_push, n2]
 have cx : G.cells H.next = some [vT, vP] := by rw [hG]; exact cells_push_old (cells_push_old (cells_push_new H _))
 have ca : G.cells (H.next + 1) = some (encA a) := by rw [hG, ← n1]; exact cells_push_old (cells_push_new _ _)
 have cr : G.cells (H.next + 2) = some zf3f7a3 := by rw [hG, ← n2]; exact cells_push_new _ _
 obtain ⟨l0, l1, l2, l3, l11⟩ := act_loads ca
 have lx : aload G (some 2) (.ptr (some (H.next, 0))) = some (.agg [vT, vP]) := aload_all cx rfl
 have RG : R20 G (.agg [vT, vP]) C := h.keep kG
 obtain ⟨w1, w2, w3⟩ := ha
 obtain ⟨n', hn'⟩ : ∃ n', n = n' + 1 := ⟨n - 1, by omega⟩
 have lay : ∀ (G1 G2 : Heap) (r : AVal) (o : Int × PCat), Keeps2 G G1 → Out20 G1 G2 r o → ∃ u, r = .tup [u, .int .u8 o.1] ∧ ∃ G3, astore lim G2 2 (.ptr (some (H.next + 2, 0))) u = some G3 ∧ aload G3 (some 2) (.ptr (some (H.next + 2, 0))) = some u ∧ Out20 H G3 (.tup [u, .int .u8 o.1]) o := fun G1 G2 r o k1 hO => by
  obtain ⟨⟨u, rfl, hu⟩, k2⟩ := hO
  obtain ⟨uT, uP, rfl, uT', uP', upl⟩ := hu.ex
  have k12 := k1.trans k2
  obtain ⟨q1, q2, q3⟩ := ret_same (K := fun _ _ => True) (H0 := H) (bx := G2.next) (H := G2.push (.cells [uT, uP])) (lim := lim) (cells_push_new G2 _) (cells_push_old (k12.cells cr)) rfl (by omega) uT'.one uP'.one
  have c2 := k12.cells cr
  have hst : astore lim G2 2 (.ptr (some (H.next + 2, 0))) (.agg [uT, uP]) = some (G2.set (H.next + 2) (.cells [uT, uP])) := by
   rw [astore_at (n := 2) (o := 0) (x := .agg [uT, uP]) c2 (by omega) rfl (by show 0 + 2 ≤ 2; omega) (by show ([uT, uP].all fun v => v.one) = true; simp [uT'.one.1, uP'.one.1])]
   rfl
  exact ⟨_, rfl, _, hst, aload_all (cells_set_same (Heap.cells_lt c2)) rfl, ⟨_, rfl, hu.set2 c2 rfl rfl (by simp [fz_plain uT', fz_plain uP'])⟩, (kG.trans k12).setNew (by omega) _⟩
 by_cases o0 : a.op = 0
 ·have e : actC C a = createC C a.slot a.q := by unfold actC; rw [if_pos o0]
  have d0 : ((a.op : Int) == 0) = true := eqT (by omega)
  obtain ⟨_, G1, g1, rfl, k1⟩ := given_c (n := n') (lim := lim) (H := G) (by omega) a.q
  have k1n := k1.next
  obtain ⟨r, G2, g2, hO⟩ := rcreate_c (n := n') (lim := lim) (RG.keep k1) hok (by omega) w2 a.q (by omega)
  rw [← hn'] at g1 g2
  obtain ⟨u, rfl, G3, s1, s2, hO3⟩ := lay G1 G2 r _ k1 hO
  have hkept : keptG none G G1 [.ptr (some (H.next, 0)), .ptr (some (H.next + 1, 1))] := keptG_of k1 fun w hw b hb => by
   simp only [List.mem_cons, List.not_mem_nil, or_false] at hw
   rcases hw with rfl | rfl
   ·simp only [blkOf, Option.some.injEq] at hb
    subst hb
    exact ⟨_, cx, by simp [fz_plain hT, fz_plain hP]⟩
   ·simp only [blkOf, Option.some.injEq] at hb
    subst hb
    refine ⟨_, ca, ?_⟩
    unfold encA
    rw [List.all_append, List.all_append, plain_encB]; rfl
  (repeat (with_reducible first | ((first | apply bindP_intro | apply bind2_intro); (focus (first | rfl | (simp only [walkS, reduceIte, hc, ho, hca, encA_one, n1, n2, ← hG, l0, d0, lx, l1, l11, g1] <;> rfl)))) | apply cond_t | apply cond_f))
  refine ⟨by rw [← hG]; exact hkept, ?_⟩
  (repeat (with_reducible first | ((first | apply bindP_intro | apply bind2_intro); (focus (first | rfl | (simp only [walkS, reduceIte, n1, n2, g2, s1, s2] <;> rfl)))) | apply cond_t | apply cond_f))
  rw [e]
  exact hO3
 have d0 : ((a.op : Int) == 0) = false := eqF (by omega)
 by_cases o1 : a.op = 1
 ·have e : actC C a = removeC C a.slot := by unfold actC; rw [if_neg o0, if_pos o1]
  have d1 : ((a.op : Int) == 1) = true := eqT (by omega)
  obtain ⟨r, G2, g2, hO⟩ := rremove_c (n := n') (lim := lim) RG (by omega) (by omega) w2 (by omega)
  rw [← hn'] at g2
  obtain ⟨u, rfl, G3, s1, s2, hO3⟩ := lay G G2 r _ (.refl _) hO
  (repeat (with_reducible first | ((first | apply bindP_intro | apply bind2_intro); (focus (first | rfl | (simp only [walkS, reduceIte, hc, ho, hca, encA_one, n1, n2, ← hG, l0, d0, d1, lx, l1, g2, s1, s2] <;> rfl)))) | apply cond_t | apply cond_f))
  rw [e]
  exact hO3
 have d1 : ((a.op : Int) == 1) = false := eqF (by omega)
 by_cases o2 : a.op = 2
 ·have e : actC C a = prinC C a.slot a.tok a.role := by unfold actC; rw [if_neg o0, if_neg o1, if_pos o2]
  have d2 : ((a.op : Int) == 2) = true := eqT (by omega)
  obtain ⟨r, G2, g2, hO⟩ := radd_c (n := n') (lim := lim) RG (by omega) (by omega) w2 w3 (by omega) a.tok
  rw [← hn'] at g2
  obtain ⟨u, rfl, G3, s1, s2, hO3⟩ := lay G G2 r _ (.refl _) hO
  (repeat (with_reducible first | ((first | apply bindP_intro | apply bind2_intro); (focus (first | rfl | (simp only [walkS, reduceIte, hc, ho, hca, encA_one, n1, n2, ← hG, l0, d0, d1, d2, lx, l1, l3, l2, g2, s1, s2] <;> rfl)))) | apply cond_t | apply cond_f))
  rw [e]
  exact hO3
 have d2 : ((a.op : Int) == 2) = false := eqF (by omega)
 by_cases o3 : a.op = 3
 ·have e : actC C a = dropC C a.tok := by unfold actC; rw [if_neg o0, if_neg o1, if_neg o2, if_pos o3]
  have d3 : ((a.op : Int) == 3) = true := eqT (by omega)
  obtain ⟨r, G2, g2, hO⟩ := rdrop_c (n := n') (lim := lim) RG (by omega) (by omega) (by omega) a.tok
  rw [← hn'] at g2
  obtain ⟨u, rfl, G3, s1, s2, hO3⟩ := lay G G2 r _ (.refl _) hO
  (repeat (with_reducible first | ((first | apply bindP_intro | apply bind2_intro); (focus (first | rfl | (simp only [walkS, reduceIte, hc, ho, hca, encA_one, n1, n2, ← hG, l0, d0, d1, d2, d3, lx, l3, g2, s1, s2] <;> rfl)))) | apply cond_t | apply cond_f))
  rw [e]
  exact hO3
 have d3 : ((a.op : Int) == 3) = false := eqF (by omega)
 have e : actC C a = (0, C) := by unfold actC; rw [if_neg o0, if_neg o1, if_neg o2, if_neg o3]
 obtain ⟨u, hu, G3, s1, s2, hO3⟩ := lay G G _ (0, C) (.refl _) ⟨⟨_, rfl, RG⟩, .refl _⟩
 simp only [AVal.tup.injEq, List.cons.injEq, and_true] at hu
 subst hu
 (repeat (with_reducible first | ((first | apply bindP_intro | apply bind2_intro); (focus (first | rfl | (simp only [walkS, reduceIte, hc, ho, hca, encA_one, n1, n2, ← hG, l0, d0, d1, d2, d3, lx, s1, s2] <;> rfl)))) | apply cond_t | apply cond_f))
 rw [e]
 exact hO3
end
section
variable {n lim N : Nat} {C : PCat}
theorem rw_ents {K : AVal → Heap → Prop} {Hb : Heap} {bx : Nat} {vT vP : AVal} {fin : List UInt8} (hok : OkC C) (hx : Hb.cells bx = some [vT, vP]) (hP : Fz Hb 3 vP (C.fs.map rowP)) (hfin : fin.length ≤ 1000) (hK : ∀ H', Keeps2 Hb H' → K (.str fin) H') :
  ∀ (f i : Nat) (s : List UInt8) (H : Heap), C.fs.length < f + i → i ≤ C.fs.length → s ++ (C.fs.drop i).flatMap wP = fin → Keeps2 Hb H → F18_l2 (Ahs.runT ap n) lim N K f (.ptr (some (bx, 0))) (.str s) (.int .i64 (i : Int)) H
 | 0, i, s, H, h', h'', _, _ => by exfalso; omega
 | f + 1, i, s, H, hj, hi, hq, kb => by
  show F18_s2 _ _ _ _ (F18_l2 _ _ _ _ f) _ _ _ _
  unfold F18_s2
  have hml := many_le hok
  have hsl := (hP.keep kb).sl
  have hld : aload H none (.ptr (some (bx, 1))) = some vP := by rw [aload_one (kb.cells hx)]; rfl
  have hal : alen false vP = some (.int .i64 (C.fs.length : Int)) := by have := hsl.len; rw [List.length_map] at this; exact this
  by_cases hil : i < C.fs.length
  ·have hd : decide ((i : Int) < (C.fs.length : Int)) = true := dT (by omega)
   obtain ⟨y, hy⟩ : ∃ y, y = C.fs[i] := ⟨_, rfl⟩
   have hx5 : C.fs[i]? = some y := by rw [hy]; exact List.getElem?_eq_getElem hil
   have hmem := List.mem_of_getElem? hx5
   obtain ⟨e1, e2, e3, e4, e5⟩ := hok.ent y hmem
   have hxr : (C.fs.map rowP)[i]? = some (rowP y) := by rw [List.getElem?_map, hx5]; rfl
   have hmlt : i < (C.fs.map rowP).length := by rw [List.length_map]; exact hil
   have had := hsl.addr (k := .i64) (i := i) hmlt
   have a0 : faddrO 0 (Ahs.slot vP (i * 3)) = some (Ahs.slot vP (i * 3)) := faddr_slot hsl (by omega) (i * 3) 0
   have a1 : faddrO 1 (Ahs.slot vP (i * 3)) = some (Ahs.slot vP (i * 3 + 1)) := faddr_slot hsl (by omega) (i * 3) 1
   have a2 : faddrO 2 (Ahs.slot vP (i * 3)) = some (Ahs.slot vP (i * 3 + 2)) := faddr_slot hsl (by omega) (i * 3) 2
   have l0 : aload H none (Ahs.slot vP (i * 3)) = some (.str y.1.1) := hsl.loadf hxr (f := 0) (by omega)
   have l1 : aload H none (Ahs.slot vP (i * 3 + 1)) = some (.int .u8 (y.2.1 : Int)) := hsl.loadf hxr (f := 1) (by omega)
   have l2 : aload H none (Ahs.slot vP (i * 3 + 2)) = some (.int .u8 (y.2.2 : Int)) := hsl.loadf hxr (f := 2) (by omega)
   have hdrop : C.fs.drop i = y :: C.fs.drop (i + 1) := by rw [hy]; exact List.drop_eq_getElem_cons hil
   rw [hdrop, List.flatMap_cons] at hq
   have hlen : s.length + (wP y).length ≤ 1000 := by
    have := congrArg List.length hq
    simp only [List.length_append] at this
    omega
   have hwl := wP_len y
   have hfv : fillV [(.int .u8 0), (.int .u8 0)] [(0, 1, .int .u8 (y.2.1 : Int)), (1, 1, .int .u8 (y.2.2 : Int))] = some [.int .u8 (y.2.1 : Int), .int .u8 (y.2.2 : Int)] := rfl
   have hen : [AVal.int .u8 (y.2.1 : Int), .int .u8 (y.2.2 : Int)] = encB [UInt8.ofNat y.2.1, UInt8.ofNat y.2.2] := by
    unfold encB
    simp [Nat.mod_eq_of_lt (show y.2.1 < 256 by omega), Nat.mod_eq_of_lt (show y.2.2 < 256 by omega)]
   have hb2 : abytesToStr (H.push (.cells [.int .u8 (y.2.1 : Int), .int .u8 (y.2.2 : Int)])) (.sl (some (H.next, 0)) 2 (.ex 2)) = some (.str [UInt8.ofNat y.2.1, UInt8.ofNat y.2.2]) := by
    rw [hen]
    exact str_blk (l := [UInt8.ofNat y.2.1, UInt8.ofNat y.2.2]) (cells_push_new H _) 2
   have s1 : abin .add (.str s) (.str y.1.1) = some (.str (s ++ y.1.1)) := sadd (by rw [y.1.2]; omega)
   have s2 : abin .add (.str (s ++ y.1.1)) (.str [UInt8.ofNat y.2.1, UInt8.ofNat y.2.2]) = some (.str (s ++ wP y)) := by
    rw [sadd (by rw [List.length_append, y.1.2]; simp; omega)]
    unfold wP
    rw [List.append_assoc]
   have hi1 : IntKind.i64.wrap ((i : Int) + 1) = ((i + 1 : Nat) : Int) := i64_succ (by omega)
   (repeat (with_reducible first | ((first | apply bindP_intro | apply bind2_intro); (focus (first | rfl | (simp only [walkS, reduceIte, hld, hal, hd, had, a0, l0, s1, a1, l1, a2, l2, hfv, hb2, s2, hi1] <;> rfl)))) | apply cond_t | apply cond_f))
   exact rw_ents hok hx hP hfin hK f (i + 1) (s ++ wP y) _ (by omega) (by omega) (by rw [List.append_assoc]; exact hq) (kb.trans (.push _ _))
  ·have hd : decide ((i : Int) < (C.fs.length : Int)) = false := dF (by omega)
   rw [List.drop_eq_nil_of_le (by omega), List.flatMap_nil, List.append_nil] at hq
   (repeat (with_reducible first | ((first | apply bindP_intro | apply bind2_intro); (focus (first | rfl | (simp only [walkS, reduceIte, hld, hal, hd] <;> rfl)))) | apply cond_t | apply cond_f))
   unfold F18_j0
   rw [hq]
   exact hK H kb
theorem rw_quos {K : AVal → Heap → Prop} {Hb : Heap} {bx : Nat} {vT vP : AVal} {fin : List UInt8} (hok : OkC C) (hx : Hb.cells bx = some [vT, vP]) (hR : R20 Hb (.agg [vT, vP]) C) (hlim : lim ≤ Hb.next) (hn : 1000013 ≤ n) (hN : 40 ≤ N) (hfin : fin.length ≤ 1000) (hK : ∀ H', Keeps2 Hb H' → K (.str fin) H') :
  ∀ (j i f : Nat) (s : List UInt8) (H : Heap), j + i = 4 → j < f → s ++ (wRest C j i ++ (vNum C.fs.length ++ C.fs.flatMap wP)) = fin → Keeps2 Hb H → F18_l0 (Ahs.runT ap n) lim N K f (.ptr (some (bx, 0))) (.str s) (.int .u8 (i : Int)) H
 | j, i, 0, s, H, _, h', _, _ => by omega
 | j, i, f + 1, s, H, hj, hjq, hq, kb => by
  show F18_s0 _ _ _ _ (F18_l0 _ _ _ _ f) _ _ _ _
  unfold F18_s0
  have hml := many_le hok
  have kbn := kb.next
  obtain ⟨n', hn'⟩ : ∃ n', n = n' + 1 := ⟨n - 1, by omega⟩
  cases j with
  | zero =>
   have hd : decide ((i : Int) < 4) = false := dF (by omega)
   obtain ⟨uT, uP, e, hT, hP, hpl⟩ := hR.ex
   simp only [AVal.agg.injEq, List.cons.injEq, and_true] at e
   obtain ⟨rfl, rfl⟩ := e
   have hld : aload H none (.ptr (some (bx, 1))) = some vP := by rw [aload_one (kb.cells hx)]; rfl
   have hal : alen false vP = some (.int .i64 (C.fs.length : Int)) := by have := hP.sl.len; rw [List.length_map] at this; exact this
   have hcv : IntKind.u64.wrap ((C.fs.length : Nat) : Int) = ((C.fs.length : Nat) : Int) := wrap_u64 (by omega) (by omega)
   obtain ⟨_, H2, r2, rfl, k2⟩ := one_c (H := H) (n := n') (lim := lim) (m := C.fs.length) (by omega) (by omega)
   rw [← hn'] at r2
   have hlen : s.length + (vNum C.fs.length).length ≤ 1000 := by
    have := congrArg List.length hq
    simp only [List.length_append] at this
    omega
   have s1 : abin .add (.str s) (.str (vNum C.fs.length)) = some (.str (s ++ vNum C.fs.length)) := sadd (by omega)
   (repeat (with_reducible first | ((first | apply bindP_intro | apply bind2_intro); (focus (first | rfl | (simp only [walkS, reduceIte, hd] <;> rfl)))) | apply cond_t | apply cond_f))
   unfold F18_j1
   (repeat (with_reducible first | ((first | apply bindP_intro | apply bind2_intro); (focus (first | rfl | (simp only [walkS, reduceIte, hld, hal, hcv, r2, s1] <;> rfl)))) | apply cond_t | apply cond_f))
   refine rw_ents hok hx hP hfin hK N 0 (s ++ vNum C.fs.length) H2 (by omega) (Nat.zero_le _) ?_ (kb.trans k2)
   rw [List.drop_zero, List.append_assoc]
   exact hq
  | succ j =>
   have hd : decide ((i : Int) < 4) = true := dT (by omega)
   have hl2 : aload H (some 2) (.ptr (some (bx, 0))) = some (.agg [vT, vP]) := aload_all (kb.cells hx) rfl
   obtain ⟨_, H1, r1, rfl, k1⟩ := find_c (n := n') (lim := lim) (s := i) (hR.keep kb) (by omega) (by omega) (by omega)
   rw [← hn'] at r1
   have k1n := k1.next
   have hqc : quotaC C i = if 0 < (C.q i).k then (C.q i, true) else (noQ, false) := by
    unfold quotaC
    by_cases hk : 0 < (C.q i).k
    ·rw [if_pos ⟨by omega, hk⟩, if_pos hk]
    ·rw [if_neg (fun e => hk e.2), if_neg hk]
   have hst : astore lim (H1.push (.cells z547173)) 4 (.ptr (some (H1.next, 0))) (.agg (encQ (quotaC C i).1)) = some (H1.push (.cells (encQ (quotaC C i).1))) := astore_new (cs := z547173) (x := .agg (encQ (quotaC C i).1)) (by omega) rfl rfl rfl
   have k2 : Keeps2 H1 (H1.push (.cells (encQ (quotaC C i).1))) := .push _ _
   have lq : ∀ o, aload (H1.push (.cells (encQ (quotaC C i).1))) none (.ptr (some (H1.next, o))) = (encQ (quotaC C i).1)[o]? := fun o => aload_new1 _ _ _
   have n2 : (H1.push (.cells (encQ (quotaC C i).1))).next = H1.next + 1 := Heap.next_push _ _
   generalize hG : H1.push (.cells (encQ (quotaC C i).1)) = G at *
   have hf := hok.fit i (by omega)
   have hle := hf.le
   have hi1 : IntKind.u8.wrap ((i : Int) + 1) = ((i + 1 : Nat) : Int) := by
    rw [show ((i : Int) + 1) = ((i + 1 : Nat) : Int) by omega]; exact wrapN_u8 (by omega)
   have hwr : wRest C (j + 1) i = wQ (C.q i) ++ wRest C j (i + 1) := rfl
   rw [hwr, List.append_assoc] at hq
   have hlen : s.length + (wQ (C.q i)).length ≤ 1000 := by
    have := congrArg List.length hq
    simp only [List.length_append] at this
    omega
   by_cases hk : 0 < (C.q i).k
   ·rw [if_pos hk] at hqc
    have hr := hf.right hk
    have hu : 0 ≤ (C.q i).u ∧ (C.q i).u ≤ 100 := by
     unfold rightQ at hr
     simp only [Bool.and_eq_true, decide_eq_true_eq] at hr
     omega
    rw [hqc] at r1 hst lq
    simp only at r1 hst lq
    have hwq : wQ (C.q i) = 1 :: (vNum (C.q i).k.toNat ++ (vNum (C.q i).b.toNat ++ (vNum (C.q i).r.toNat ++ vNum (C.q i).u.toNat))) := by unfold wQ; rw [if_pos hk]
    have c1 : IntKind.u64.wrap (C.q i).k = (C.q i).k := wrap_u64 (by omega) (by omega)
    have c2 : IntKind.u64.wrap (C.q i).b = (C.q i).b := wrap_u64 (by omega) (by omega)
    have c3 : IntKind.u64.wrap (C.q i).r = (C.q i).r := wrap_u64 (by omega) (by omega)
    have c4 : IntKind.u64.wrap (C.q i).u = (C.q i).u := wrap_u64 (by omega) (by omega)
    have l0 := lq 0
    have l1 := lq 1
    have l2 := lq 2
    have l3 := lq 3
    simp only [encQ, List.getElem?_cons_zero, List.getElem?_cons_succ] at l0 l1 l2 l3
    have hfv : fillV z70c9c7 [(0, 1, .int .u64 (C.q i).k), (1, 1, .int .u64 (C.q i).b), (2, 1, .int .u64 (C.q i).r), (3, 1, .int .u64 (C.q i).u)] = some [.int .u64 (C.q i).k, .int .u64 (C.q i).b, .int .u64 (C.q i).r, .int .u64 (C.q i).u] := rfl
    have hsl : Sl (G.push (.cells [.int .u64 (C.q i).k, .int .u64 (C.q i).b, .int .u64 (C.q i).r, .int .u64 (C.q i).u])) 1 (.sl (some (G.next, 0)) 4 (.ex 4)) (encN [(C.q i).k.toNat, (C.q i).b.toNat, (C.q i).r.toNat, (C.q i).u.toNat]) := by
     refine ⟨.inr ⟨G.next, 0, .ex 4, [.int .u64 (C.q i).k, .int .u64 (C.q i).b, .int .u64 (C.q i).r, .int .u64 (C.q i).u], rfl, Nat.le_refl _, cells_push_new G _, Nat.le_refl 4, ?_⟩, fun x hx => ?_⟩
     ·unfold encN
      simp only [List.map_cons, List.map_nil, List.flatten_cons, List.flatten_nil, List.cons_append, List.nil_append, List.length_cons, List.length_nil]
      rw [Int.toNat_of_nonneg (by omega), Int.toNat_of_nonneg (by omega), Int.toNat_of_nonneg (by omega), Int.toNat_of_nonneg (by omega)]
      rfl
     ·unfold encN at hx
      simp at hx
      rcases hx with rfl | rfl | rfl | rfl <;> rfl
    have k3 : Keeps2 G (G.push (.cells [.int .u64 (C.q i).k, .int .u64 (C.q i).b, .int .u64 (C.q i).r, .int .u64 (C.q i).u])) := .push _ _
    obtain ⟨_, H3, r3, rfl, k4⟩ := refv_c (n := n') (lim := lim) (l := [(C.q i).k.toNat, (C.q i).b.toNat, (C.q i).r.toNat, (C.q i).u.toNat]) (by omega) (fun m hm => by simp at hm; omega) (by simp) hsl
    have hvn : vNums [(C.q i).k.toNat, (C.q i).b.toNat, (C.q i).r.toNat, (C.q i).u.toNat] = vNum (C.q i).k.toNat ++ (vNum (C.q i).b.toNat ++ (vNum (C.q i).r.toNat ++ vNum (C.q i).u.toNat)) := by unfold vNums; simp
    rw [hvn] at r3
    rw [← hn'] at r3
    have hl41 := wQ_len hf
    rw [hwq] at hl41 hlen hq
    simp only [List.length_cons] at hl41 hlen
    have s1 : abin .add (.str s) (.str [1]) = some (.str (s ++ [1])) := sadd (by simp only [List.length_cons, List.length_nil]; omega)
    have s2 : abin .add (.str (s ++ [1])) (.str (vNum (C.q i).k.toNat ++ (vNum (C.q i).b.toNat ++ (vNum (C.q i).r.toNat ++ vNum (C.q i).u.toNat)))) = some (.str (s ++ 1 :: (vNum (C.q i).k.toNat ++ (vNum (C.q i).b.toNat ++ (vNum (C.q i).r.toNat ++ vNum (C.q i).u.toNat))))) := by
     rw [sadd (by simp only [List.length_append, List.length_cons, List.length_nil] at hlen ⊢; omega)]
     simp
    (repeat (with_reducible first | ((first | apply bindP_intro | apply bind2_intro); (focus (first | rfl | (simp only [walkS, reduceIte, hd, hl2, r1, hst, s1, l0, l1, l2, l3, c1, c2, c3, c4, hfv, r3, s2] <;> rfl)))) | apply cond_t | apply cond_f))
    unfold F18_j2
    (repeat (with_reducible first | ((first | apply bindP_intro | apply bind2_intro); (focus (first | rfl | (simp only [walkS, reduceIte, hi1] <;> rfl)))) | apply cond_t | apply cond_f))
    exact rw_quos hok hx hR hlim hn hN hfin hK j (i + 1) f _ H3 (by omega) (by omega) (by rw [List.append_assoc]; exact hq) (kb.trans (k1.trans (k2.trans (k3.trans k4))))
   ·rw [if_neg hk] at hqc
    rw [hqc] at r1 hst
    simp only at r1 hst
    have hwq : wQ (C.q i) = [0] := by unfold wQ; rw [if_neg hk]
    rw [hwq] at hq hlen
    have s1 : abin .add (.str s) (.str [0]) = some (.str (s ++ [0])) := sadd (by simp only [List.length_cons, List.length_nil] at hlen ⊢; omega)
    (repeat (with_reducible first | ((first | apply bindP_intro | apply bind2_intro); (focus (first | rfl | (simp only [walkS, reduceIte, hd, hl2, r1, hst, s1] <;> rfl)))) | apply cond_t | apply cond_f))
    unfold F18_j2
    (repeat (with_reducible first | ((first | apply bindP_intro | apply bind2_intro); (focus (first | rfl | (simp only [walkS, reduceIte, hi1] <;> rfl)))) | apply cond_t | apply cond_f))
    exact rw_quos hok hx hR hlim hn hN hfin hK j (i + 1) f _ G (by omega) (by omega) (by rw [List.append_assoc]; exact hq) (kb.trans (k1.trans k2))
theorem rwrite_c {H : Heap} {v : AVal} (h : R20 H v C) (hok : OkC C) (hlim : lim ≤ H.next) (hn : 1000013 ≤ n) : ∃ r H', Ahs.runT ap (n + 1) lim (.fn 18) [v] H = some (r, H') ∧ r = .str (writeC C) ∧ Keeps2 H H' := by
 obtain ⟨vT, vP, rfl, hT, hP, hpl⟩ := h.ex
 refine F18_run a18 ?_
 unfold F18
 have hc : (AVal.agg [vT, vP]).cells = [vT, vP] := rfl
 have ho : ([vT, vP].all fun v => v.one) = true := by simp [hT.one.1, hP.one.1]
 have k1 : Keeps2 H (H.push (.cells [vT, vP])) := .push _ _
 have n1 : (H.push (.cells [vT, vP])).next = H.next + 1 := Heap.next_push _ _
 (repeat (with_reducible first | ((first | apply bindP_intro | apply bind2_intro); (focus (first | rfl | (simp only [walkS, reduceIte, hc, ho] <;> rfl)))) | apply cond_t | apply cond_f))
 exact rw_quos hok (cells_push_new H _) (h.keep k1) (by omega) hn (by omega) (Nat.le_trans (write_len hok).2 (by omega)) (fun H' k => ⟨rfl, k1.trans k⟩) 4 0 n [] _ rfl (by omega) (by
  unfold writeC
  simp only [wRest, PCat.q, List.nil_append, List.append_assoc, List.append_nil]) (.refl _)
end
theorem leafI (x : Int) : leafEq (.int .i64) (.int .i64 x) (.int .i64 x) = some true := by
 simp [leafEq]
theorem quo_same (q : Quo) : cellsEq [(.int .i64), (.int .i64), (.int .i64), (.int .i64)] (encQ q) (encQ q) = some true := by
 unfold encQ
 simp [cellsEq, leafI]
section
variable {n lim N : Nat} {K : AVal → Heap → Prop} {H0 : Heap}
theorem R20.out {H H' : Heap} {r : AVal} {o : Int × PCat} (h : Out20 H H' r o) : ∃ uT uP, r = .tup [.agg [uT, uP], .int .u8 o.1] ∧ R20 H' (.agg [uT, uP]) o.2 ∧ Keeps2 H H' ∧ (uT.one = true ∧ uP.one = true) ∧ [uT, uP].all plainV = true := by
 obtain ⟨⟨v', rfl, hR⟩, hk⟩ := h
 have hR' := hR
 obtain ⟨uT, uP, rfl, hT, hP, _⟩ := hR'.ex
 exact ⟨uT, uP, rfl, hR, hk, ⟨hT.one.1, hP.one.1⟩, by simp [fz_plain hT, fz_plain hP]⟩
theorem plays_loop {v : AVal} {l : List PAct} (hA : ActsAt H0 v l) (hlim : lim ≤ H0.next) (hn : 1000020 ≤ n) (hl : l.length ≤ 120) (hK : ∀ H', K (.bool true) H') :
  ∀ (q i b m w : Nat) (C : PCat) (uT uP : AVal) (H : Heap), l.length < q + i → i ≤ l.length → CatAt H b m C → OkC C → R20 H (.agg [uT, uP]) C → H.cells w = some [uT, uP] → w ≠ b → w ≠ m → Keeps2 H0 H → H0.next ≤ b → H0.next ≤ m → H0.next ≤ w →
   F6_l0 (Ahs.runT ap n) lim N K q v (.ptr (some (b, 0))) (.ptr (some (w, 0))) (.int .i64 (i : Int)) H
 | 0, i, b, m, w, C, uT, uP, H, h1, h2, _, _, _, _, _, _, _, _, _, _ => by exfalso; omega
 | q + 1, i, b, m, w, C, uT, uP, H, hq, hi, hc, hok, hR, hw, hwb, hwm, k0, g1, g2, g3 => by
  show F6_s0 _ _ _ _ (F6_l0 _ _ _ _ q) _ _ _ _ _
  unfold F6_s0
  have hal : alen false v = some (.int .i64 (l.length : Int)) := by have := hA.sl.len; rw [List.length_map] at this; exact this
  have hkn := k0.next
  obtain ⟨n', hn'⟩ : ∃ n', n = n' + 1 := ⟨n - 1, by omega⟩
  by_cases hil : i < l.length
  ·have hdd : decide ((i : Int) < (l.length : Int)) = true := dT (by omega)
   obtain ⟨a, ha, hwa, had, hld, _⟩ := act_at (hA.keep k0) hil
   have hst1 : astore lim (H.push (.cells z5b6347)) 15 (.ptr (some (H.next, 0))) (.agg (encA a)) = some (H.push (.cells (encA a))) := astore_new (cs := z5b6347) (x := .agg (encA a)) (by omega) (encA_len a) rfl (encA_one a)
   have k1 : Keeps2 H (H.push (.cells (encA a))) := .push _ _
   have x1 : (H.push (.cells (encA a))).cells H.next = some (encA a) := cells_push_new _ _
   have n1 : (H.push (.cells (encA a))).next = H.next + 1 := Heap.next_push _ _
   generalize hH1 : H.push (.cells (encA a)) = H1 at *
   have lx1 : aload H1 (some 15) (.ptr (some (H.next, 0))) = some (.agg (encA a)) := aload_all x1 (encA_len a)
   have c1 := hc.keep k1
   have w1 := k1.cells hw
   have lb := hc.ltb
   have lw := Heap.cells_lt hw
   obtain ⟨_, H2, r2, b', m', rfl, c2, f2, e2, e2'⟩ := does_c2 (n := n') (lim := lim) c1 hok hwa (by omega) (by omega) (by omega) (by omega)
   rw [← hn'] at r2
   have f2n := f2.next
   have hnx : ¬ cft b m H.next := fun e => by rcases e with e | e <;> omega
   have hnw : ¬ cft b m w := fun e => by rcases e with e | e; exact hwb e; exact hwm e
   have x2 := f2.cells x1 hnx
   have w2 := f2.cells w1 hnw
   have k2 : Keeps2 H0 H2 := Fram.keeps (k0.trans k1) f2 fun c hc e => by rcases e with rfl | rfl <;> omega
   have R2 : R20 H2 (.agg [uT, uP]) C := by
    rcases e2' with ⟨rfl, rfl⟩ | e
    ·exact (hR.keep k1).cat c1 c2 f2
    ·exact (hR.keep k1).keep e
   have g1' : H0.next ≤ b' := by rcases e2 with ⟨rfl, rfl⟩ | ⟨e1, e2⟩ <;> omega
   have g2' : H0.next ≤ m' := by rcases e2 with ⟨rfl, rfl⟩ | ⟨e1, e2⟩ <;> omega
   have hwb' : w ≠ b' := by rcases e2 with ⟨rfl, rfl⟩ | ⟨e1, e2⟩ <;> omega
   have hwm' : w ≠ m' := by rcases e2 with ⟨rfl, rfl⟩ | ⟨e1, e2⟩ <;> omega
   have lw2 : aload H2 (some 2) (.ptr (some (w, 0))) = some (.agg [uT, uP]) := aload_all w2 rfl
   have lx2 : aload H2 (some 15) (.ptr (some (H.next, 0))) = some (.agg (encA a)) := aload_all x2 (encA_len a)
   have k2n := k2.next
   obtain ⟨r3, H3, g3', hO⟩ := said_c (n := n') (lim := lim) R2 hok hwa (by omega) (by omega)
   rw [← hn'] at g3'
   obtain ⟨tT, tP, rfl, R3, k3, o3, p3⟩ := R20.out hO
   have k3n := k3.next
   have w3 := k3.cells w2
   have hst4 : astore lim H3 2 (.ptr (some (w, 0))) (.agg [tT, tP]) = some (H3.set w (.cells [tT, tP])) := astore_at (n := 2) (o := 0) (x := .agg [tT, tP]) w3 (by omega) rfl (by show 0 + 2 ≤ 2; omega) (by show ([tT, tP].all fun v => v.one) = true; simp [o3.1, o3.2])
   have w4 : (H3.set w (.cells [tT, tP])).cells w = some [tT, tP] := cells_set_same (Heap.cells_lt w3)
   have R4 : R20 (H3.set w (.cells [tT, tP])) (.agg [tT, tP]) (actC C a).2 := R3.set2 w3 rfl rfl p3
   have c4 : CatAt (H3.set w (.cells [tT, tP])) b' m' (actC C a).2 := (c2.keep k3).frame (Fram.set (S := fun c => c = w) rfl) (fun e => hwb' e.symm) (fun e => hwm' e.symm)
   have x4 : (H3.set w (.cells [tT, tP])).cells H.next = some (encA a) := cells_set_other (k3.cells x2) (by omega)
   have k4 : Keeps2 H0 (H3.set w (.cells [tT, tP])) := (k2.trans k3).setNew g3 _
   have n4 : (H3.set w (.cells [tT, tP])).next = H3.next := Heap.next_set _ _ _
   generalize hH4 : H3.set w (.cells [tT, tP]) = H4 at *
   obtain ⟨hok4, _⟩ := actC_ok hok a
   have hm4 := many_le hok4
   generalize hD : (actC C a).2 = D at *
   obtain ⟨s0, s1, s2, s3, s11⟩ := act_loads x4
   obtain ⟨n2, hn2⟩ : ∃ n2, n = n2 + 2 := ⟨n - 2, by omega⟩
   obtain ⟨_, H5, r5, rfl, k5⟩ := who_c (n := n2) (lim := lim) c4 (by omega) a.tok
   rw [← hn2] at r5
   have k5n := k5.next
   have lw5 : aload H5 (some 2) (.ptr (some (w, 0))) = some (.agg [tT, tP]) := aload_all (k5.cells w4) rfl
   have s5 := (act_loads (k5.cells x4)).2.2.2.1
   obtain ⟨_, H6, r6, rfl, k6⟩ := rwho_c (n := n') (lim := lim) (R4.keep k5) (by omega) (by omega) a.tok
   rw [← hn'] at r6
   have k6n := k6.next
   have k46 := k5.trans k6
   have s6 := (act_loads (k46.cells x4)).2.1
   obtain ⟨_, H7, r7, rfl, k7⟩ := quota_c (n := n2) (lim := lim) (c4.keep k46) (by omega) hwa.slot
   rw [← hn2] at r7
   have k7n := k7.next
   have k47 := k46.trans k7
   generalize hqo : quotaC D a.slot = qo at *
   obtain ⟨qq, ok⟩ := qo
   simp only at r7
   have hst8 : astore lim (H7.push (.cells z547173)) 4 (.ptr (some (H7.next, 0))) (.agg (encQ qq)) = some (H7.push (.cells (encQ qq))) := astore_new (cs := z547173) (x := .agg (encQ qq)) (by omega) rfl rfl rfl
   have k8 : Keeps2 H7 (H7.push (.cells (encQ qq))) := .push _ _
   have x8 : (H7.push (.cells (encQ qq))).cells H7.next = some (encQ qq) := cells_push_new _ _
   generalize hH8 : H7.push (.cells (encQ qq)) = H8 at *
   have k8n := k8.next
   have k48 := k47.trans k8
   have lw8 : aload H8 (some 2) (.ptr (some (w, 0))) = some (.agg [tT, tP]) := aload_all (k48.cells w4) rfl
   have s8 := (act_loads (k48.cells x4)).2.1
   obtain ⟨_, H9, r9, rfl, k9⟩ := find_c (n := n') (lim := lim) (s := a.slot) (R4.keep k48) (by omega) hwa.slot (by omega)
   rw [← hn', hqo] at r9
   simp only at r9
   have k9n := k9.next
   have hst10 : astore lim (H9.push (.cells z547173)) 4 (.ptr (some (H9.next, 0))) (.agg (encQ qq)) = some (H9.push (.cells (encQ qq))) := astore_new (cs := z547173) (x := .agg (encQ qq)) (by omega) rfl rfl rfl
   have k10 : Keeps2 H9 (H9.push (.cells (encQ qq))) := .push _ _
   have x10 : (H9.push (.cells (encQ qq))).cells H9.next = some (encQ qq) := cells_push_new _ _
   generalize hH10 : H9.push (.cells (encQ qq)) = H10 at *
   have k10n := k10.next
   have lq10 : aload H10 (some 4) (.ptr (some (H7.next, 0))) = some (.agg (encQ qq)) := aload_all ((k9.trans k10).cells x8) rfl
   obtain ⟨_, H11, r11, rfl, k11⟩ := given_c (n := n') (lim := H10.next) (H := H10) (Nat.le_refl _) qq
   rw [← hn'] at r11
   have k11n := k11.next
   have lq11 : aload H11 (some 4) (.ptr (some (H9.next, 0))) = some (.agg (encQ qq)) := aload_all (k11.cells x10) rfl
   have k411 := (k48.trans k9).trans (k10.trans k11)
   have s11' := (act_loads (k411.cells x4)).2.2.2.2
   obtain ⟨_, H12, r12, rfl, k12⟩ := right_c (n := n2) (lim := H11.next) (H := H11) a.q
   rw [← hn2] at r12
   have k12n := k12.next
   have s12 := (act_loads ((k411.trans k12).cells x4)).2.2.2.2
   obtain ⟨_, H13, r13, rfl, k13⟩ := given_c (n := n') (lim := lim) (H := H12) (by omega) a.q
   rw [← hn'] at r13
   obtain ⟨_, H14, r14, rfl, k14⟩ := rright_c (n := n') (lim := lim) (H := H13) a.q
   rw [← hn'] at r14
   have k414 := (k411.trans k12).trans (k13.trans k14)
   have e1 : ((actC C a).1 != (actC C a).1) = false := by simp
   have e3 : (((whoC D a.tok).1 : Int) != ((whoC D a.tok).1 : Int)) = false := by simp
   have e4 : (((whoC D a.tok).2.1 : Int) != ((whoC D a.tok).2.1 : Int)) = false := by simp
   have eb : ∀ x : Bool, eqvO true .bool (.bool x) (.bool x) = some (.bool false) := fun x => by cases x <;> rfl
   have hi1 : IntKind.i64.wrap ((i : Int) + 1) = ((i + 1 : Nat) : Int) := i64_succ (by omega)
   (repeat (with_reducible first | ((first | apply bindP_intro | apply bind2_intro); (focus (first | rfl | (simp only [walkS, reduceIte, hal, hdd, had, hld, hst1, hH1, lx1, r2, lw2, lx2, g3', hst4, hH4, s3, r5, lw5, s5, r6, s6, r7, hst8, hH8, lw8, s8, r9, hst10, hH10, e1, e3, e4, eb, lq10, r11, lq11, quo_same, s11', r12, s12, r13, r14, hi1] <;> rfl)))) | apply cond_t | apply cond_f))
   exact plays_loop hA hlim hn hl hK q (i + 1) b' m' w D tT tP H14 (by omega) (by omega) (c4.keep k414) hok4 (R4.keep k414) (k414.cells w4) hwb' hwm' (k4.trans k414) g1' g2' g3
  ·have hdd : decide ((i : Int) < (l.length : Int)) = false := dF (by omega)
   (repeat (with_reducible first | ((first | apply bindP_intro | apply bind2_intro); (focus (first | rfl | (simp only [walkS, reduceIte, hal, hdd] <;> rfl)))) | apply cond_t | apply cond_f))
   unfold F6_j0
   obtain ⟨_, H1, r1, rfl, k1⟩ := write_c (n := n') (lim := H.next) hc hok (Nat.le_refl _) (by omega)
   have k1n := k1.next
   have lw1 : aload H1 (some 2) (.ptr (some (w, 0))) = some (.agg [uT, uP]) := aload_all (k1.cells hw) rfl
   obtain ⟨_, H2, r2, rfl, k2⟩ := rwrite_c (n := n') (lim := lim) (hR.keep k1) hok (by omega) (by omega)
   have hb := b19 (n := n') (lim := lim) (H := H2)
   have es : (writeC C == writeC C) = true := by simp
   rw [← hn'] at r1 r2 hb
   (repeat (with_reducible first | ((first | apply bindP_intro | apply bind2_intro); (focus (first | rfl | (simp only [walkS, reduceIte, r1, lw1, r2, es, hb] <;> rfl)))) | apply cond_t | apply cond_f))
   exact hK H2
end
theorem plays_c {n : Nat} {H : Heap} {v : AVal} {l : List PAct} (hA : ActsAt H v l) (hn : 1000020 ≤ n) :
  ∃ r H', Ahs.runT ap (n + 1) H.next (.fn 6) [v] H = some (r, H') ∧ r = .bool true := by
 refine F6_run a6 ?_
 unfold F6
 have hal : alen false v = some (.int .i64 (l.length : Int)) := by have := hA.sl.len; rw [List.length_map] at this; exact this
 obtain ⟨n', hn'⟩ : ∃ n', n = n' + 1 := ⟨n - 1, by omega⟩
 have hb := b19 (n := n') (lim := H.next) (H := H)
 rw [← hn'] at hb
 by_cases h1 : 120 < l.length
 ·have d1 : decide ((120 : Int) < (l.length : Int)) = true := dT (by omega)
  (repeat (with_reducible first | ((first | apply bindP_intro | apply bind2_intro); (focus (first | rfl | (simp only [walkS, reduceIte, hal, d1, hb] <;> rfl)))) | apply cond_t | apply cond_f))
  exact rfl
 have d1 : decide ((120 : Int) < (l.length : Int)) = false := dF (by omega)
 obtain ⟨b, m, H1, r1, c1, k1, g1, g2, lb, lm⟩ := cnew_c (n := n') (lim := H.next) (H := H)
 rw [← hn'] at r1
 have hz : buildO zf3f7a3 [] = some (.agg zf3f7a3) := rfl
 have k1n := k1.next
 have hsz : astore H.next (H1.push (.cells zf3f7a3)) 2 (.ptr (some (H1.next, 0))) (.agg zf3f7a3) = some (H1.push (.cells zf3f7a3)) := astore_new (cs := zf3f7a3) (x := .agg zf3f7a3) (by omega) rfl rfl rfl
 have k2 : Keeps2 H1 (H1.push (.cells zf3f7a3)) := .push _ _
 (repeat (with_reducible first | ((first | apply bindP_intro | apply bind2_intro); (focus (first | rfl | (simp only [walkS, reduceIte, hal, d1, r1, hz, hsz] <;> rfl)))) | apply cond_t | apply cond_f))
 exact plays_loop hA (Nat.le_refl _) hn (by omega) (fun _ => rfl) n 0 b m H1.next newC _ _ _ (by omega) (Nat.zero_le _) (c1.keep k2) ok_new (R20.new _) (cells_push_new H1 _) (by omega) (by omega) (k1.trans k2) g1 g2 (by omega)
theorem plays_walk (H : Heap) (vs : List AVal) (h : WfArgs H [(false, .slice actTy .nil)] vs) : ∃ n, isTrue (run ap n H.next 6 vs H) = true := by
 obtain ⟨a0, _, rfl, h0, rfl⟩ := h
 simp only [Bool.false_eq_true, if_false] at h0
 obtain ⟨l0, A0⟩ := wf_acts h0
 exact ⟨_, isTrue_run (plays_c (n := 2000000) A0 (by omega))⟩
end Go.Proofs.Ytjflpnahjooffaa.cat
