/- DiskPlays: whatever is done to a disk, each answer, and how it stands then, are the document's. -/
import Derived.Test.YtjflpnahjooffaaDxRef
set_option maxRecDepth 100000
set_option linter.unusedVariables false
set_option linter.unusedSimpArgs false
namespace Go.Proofs.Ytjflpnahjooffaa.disk
open Go.Ahs

section
variable {X : Nat → Prop} {H : Heap} {b bv : Nat} {sl : AVal} {W : Dsk}

theorem said_c {n lim K : Nat} {H0 : Heap} {p : PAct} {x : List AVal} (h : RefAt X H b bv sl W) (hA : DskOK K W) (hK : K ≤ 50000000) (hXb : X b) (hXv : X bv) (hlb : lim ≤ b) (hlv : lim ≤ bv) (hX : ∀ c, X c → c < H.next) (hKn : K + 1 < n)
    (k0 : Keeps2 H0 H) (hb0 : H0.next ≤ b) (hx : ActAt H0 x p) (hp : p.ok) :
    ∃ v H', Ahs.runT ap (n + 3) lim (.fn 53) [ptr b, .agg x] H = some (v, H') ∧ v = .tup [.str (doesD W p).1.1, .int .i64 (doesD W p).1.2] ∧ ROut X H b bv (doesD W p).2 H' := by
  refine F53_run a53 ?_
  unfold F53 doesD
  have hlt := h.ltb
  have hbv := hX bv hXv
  have hl := hA.len
  obtain ⟨ks, ts, rfl, s1, s2, o1, o2⟩ := hx.ex
  have hb : (([.int .u8 p.act, .str p.a, .str p.b, .int .i64 p.n, ks, ts] : List AVal).all fun v => v.one) = true := by
    simp only [List.all_cons, List.all_nil, o1, o2, Bool.and_true]; rfl
  have kx : Keeps2 H (H.push (.cells [.int .u8 p.act, .str p.a, .str p.b, .int .i64 p.n, ks, ts])) := .push _ _
  have nx : (H.push (.cells [.int .u8 p.act, .str p.a, .str p.b, .int .i64 p.n, ks, ts])).next = H.next + 1 := Heap.next_push _ _
  have lx : ∀ o, aload (H.push (.cells [.int .u8 p.act, .str p.a, .str p.b, .int .i64 p.n, ks, ts])) none (.ptr (some (H.next, o))) = ([.int .u8 p.act, .str p.a, .str p.b, .int .i64 p.n, ks, ts] : List AVal)[o]? := fun o => aload_new1 _ _ _
  have l4 : aload (H.push (.cells [.int .u8 p.act, .str p.a, .str p.b, .int .i64 p.n, ks, ts])) (some 2) (.ptr (some (H.next, 4))) = some (.agg [ks, ts]) := by
    rw [aload_agg (cells_push_new H _)]; rfl
  have h1 := h.keep kx
  have q := act_eq p
  generalize hH1 : H.push (.cells [.int .u8 p.act, .str p.a, .str p.b, .int .i64 p.n, ks, ts]) = H1 at *
  have hX1 : ∀ c, X c → c < H1.next := fun c e => by have := hX c e; omega
  have frx : Fram (fun c => c = b ∨ c = bv) H H1 := .of kx
  have back : ∀ {W' : Dsk} {H' : Heap}, ROut X H1 b bv W' H' → ROut X H b bv W' H' := fun h => h.from frx (.inl rfl) fun c e => e
  have same : ROut X H b bv W H1 := .same h1 hX1 hXv frx
  by_cases c0 : p.act = 0
  · have e0 : decide (p.act = 0) = true := dT c0
    obtain ⟨v, H', r1, r2, r3⟩ := rAppend_c (n := n) (lim := lim) h1 hA hK hXb hXv hlb (by omega) hX1 (by omega) p.a p.b
    (repeat (first | (with_reducible apply bindP_intro; (focus (first | with_reducible rfl | (simp only [walkR, get0, getS, Nat.zero_add, Nat.add_zero, Bool.not_true, Bool.not_false, decide_true, decide_false, reduceIte, and_self, Bool.false_eq_true, hb, hH1, lx, q, e0, r1] <;> with_reducible rfl)))) | (with_reducible apply bind2_intro; (focus (first | with_reducible rfl | (simp only [walkR, get0, getS, Nat.zero_add, Nat.add_zero, Bool.not_true, Bool.not_false, decide_true, decide_false, reduceIte, and_self, Bool.false_eq_true, hb, hH1, lx, q, e0, r1] <;> with_reducible rfl)))) | with_reducible apply cond_t | with_reducible apply cond_f))
    simp only [c0, if_true]
    exact ⟨by rw [r2], back r3⟩
  have e0 : decide (p.act = 0) = false := dF c0
  simp only [c0, if_false]
  by_cases c1 : p.act = 1
  · have e1 : decide (p.act = 1) = true := dT c1
    obtain ⟨v, H', r1, r2, r3⟩ := rSync_c (n := n) (lim := lim) h1 hA hK hXb hXv hlb hlv (by omega) hX1 (by omega) p.a
    (repeat (first | (with_reducible apply bindP_intro; (focus (first | with_reducible rfl | (simp only [walkR, get0, getS, Nat.zero_add, Nat.add_zero, Bool.not_true, Bool.not_false, decide_true, decide_false, reduceIte, and_self, Bool.false_eq_true, hb, hH1, lx, q, e0, e1, r1] <;> with_reducible rfl)))) | (with_reducible apply bind2_intro; (focus (first | with_reducible rfl | (simp only [walkR, get0, getS, Nat.zero_add, Nat.add_zero, Bool.not_true, Bool.not_false, decide_true, decide_false, reduceIte, and_self, Bool.false_eq_true, hb, hH1, lx, q, e0, e1, r1] <;> with_reducible rfl)))) | with_reducible apply cond_t | with_reducible apply cond_f))
    simp only [c1, if_true]
    exact ⟨by rw [r2], back r3⟩
  have e1 : decide (p.act = 1) = false := dF c1
  simp only [c1, if_false]
  by_cases c2 : p.act = 2
  · have e2 : decide (p.act = 2) = true := dT c2
    obtain ⟨v, H', r1, r2, r3⟩ := rRename_c (n := n) (lim := lim) h1 hA hK hXb hXv hlb (by omega) hX1 (by omega) p.a p.b
    (repeat (first | (with_reducible apply bindP_intro; (focus (first | with_reducible rfl | (simp only [walkR, get0, getS, Nat.zero_add, Nat.add_zero, Bool.not_true, Bool.not_false, decide_true, decide_false, reduceIte, and_self, Bool.false_eq_true, hb, hH1, lx, q, e0, e1, e2, r1] <;> with_reducible rfl)))) | (with_reducible apply bind2_intro; (focus (first | with_reducible rfl | (simp only [walkR, get0, getS, Nat.zero_add, Nat.add_zero, Bool.not_true, Bool.not_false, decide_true, decide_false, reduceIte, and_self, Bool.false_eq_true, hb, hH1, lx, q, e0, e1, e2, r1] <;> with_reducible rfl)))) | with_reducible apply cond_t | with_reducible apply cond_f))
    simp only [c2, if_true]
    exact ⟨by rw [r2], back r3⟩
  have e2 : decide (p.act = 2) = false := dF c2
  simp only [c2, if_false]
  by_cases c3 : p.act = 3
  · have e3 : decide (p.act = 3) = true := dT c3
    obtain ⟨v, H', r1, r2, r3⟩ := rDelete_c (n := n) (lim := lim) h1 hA hK hXb hXv hlb (by omega) hX1 (by omega) p.a
    (repeat (first | (with_reducible apply bindP_intro; (focus (first | with_reducible rfl | (simp only [walkR, get0, getS, Nat.zero_add, Nat.add_zero, Bool.not_true, Bool.not_false, decide_true, decide_false, reduceIte, and_self, Bool.false_eq_true, hb, hH1, lx, q, e0, e1, e2, e3, r1] <;> with_reducible rfl)))) | (with_reducible apply bind2_intro; (focus (first | with_reducible rfl | (simp only [walkR, get0, getS, Nat.zero_add, Nat.add_zero, Bool.not_true, Bool.not_false, decide_true, decide_false, reduceIte, and_self, Bool.false_eq_true, hb, hH1, lx, q, e0, e1, e2, e3, r1] <;> with_reducible rfl)))) | with_reducible apply cond_t | with_reducible apply cond_f))
    simp only [c3, if_true]
    exact ⟨by rw [r2], back r3⟩
  have e3 : decide (p.act = 3) = false := dF c3
  simp only [c3, if_false]
  by_cases c4 : p.act = 4
  · have e4 : decide (p.act = 4) = true := dT c4
    obtain ⟨v, H', r1, r2, r3⟩ := rRead_c (n := n) (lim := lim) h1 hA hK (by omega) p.a
    subst r2
    (repeat (first | (with_reducible apply bindP_intro; (focus (first | with_reducible rfl | (simp only [walkR, get0, getS, Nat.zero_add, Nat.add_zero, Bool.not_true, Bool.not_false, decide_true, decide_false, reduceIte, and_self, Bool.false_eq_true, hb, hH1, lx, q, e0, e1, e2, e3, e4, r1] <;> with_reducible rfl)))) | (with_reducible apply bind2_intro; (focus (first | with_reducible rfl | (simp only [walkR, get0, getS, Nat.zero_add, Nat.add_zero, Bool.not_true, Bool.not_false, decide_true, decide_false, reduceIte, and_self, Bool.false_eq_true, hb, hH1, lx, q, e0, e1, e2, e3, e4, r1] <;> with_reducible rfl)))) | with_reducible apply cond_t | with_reducible apply cond_f))
    simp only [c4, if_true]
    exact ⟨trivial, .same (h1.keep r3) (fun c e => by have := hX1 c e; have := r3.next; omega) hXv (frx.trans (.of (S := fun c => c = b ∨ c = bv) r3) fun c _ e => e)⟩
  have e4 : decide (p.act = 4) = false := dF c4
  simp only [c4, if_false]
  by_cases c5 : p.act = 5
  · have e5 : decide (p.act = 5) = true := dT c5
    obtain ⟨v, H', r1, r2⟩ := rFuse_c (n := n + 1) (lim := lim) h1 hXb hXv hlb hX1 p.n
    (repeat (first | (with_reducible apply bindP_intro; (focus (first | with_reducible rfl | (simp only [walkR, get0, getS, Nat.zero_add, Nat.add_zero, Bool.not_true, Bool.not_false, decide_true, decide_false, reduceIte, and_self, Bool.false_eq_true, hb, hH1, lx, q, e0, e1, e2, e3, e4, e5, r1] <;> with_reducible rfl)))) | (with_reducible apply bind2_intro; (focus (first | with_reducible rfl | (simp only [walkR, get0, getS, Nat.zero_add, Nat.add_zero, Bool.not_true, Bool.not_false, decide_true, decide_false, reduceIte, and_self, Bool.false_eq_true, hb, hH1, lx, q, e0, e1, e2, e3, e4, e5, r1] <;> with_reducible rfl)))) | with_reducible apply cond_t | with_reducible apply cond_f))
    unfold F53_j0
    simp only [c5, if_true]
    exact ⟨trivial, back r2⟩
  have e5 : decide (p.act = 5) = false := dF c5
  simp only [c5, if_false]
  by_cases c6 : p.act = 6
  · have e6 : decide (p.act = 6) = true := dT c6
    have hkp := hp.keep
    have htn := hp.torn
    obtain ⟨v, H', r1, r2⟩ := rCrash_c (n := n) (lim := lim) h1 hA hK hXb hXv hlb (by omega) hX1 (by omega) s1 s2 hb0 (k0.trans kx) o1 o2 hx.keep hx.torn (by omega) (by omega)
    (repeat (first | (with_reducible apply bindP_intro; (focus (first | with_reducible rfl | (simp only [walkR, get0, getS, Nat.zero_add, Nat.add_zero, Bool.not_true, Bool.not_false, decide_true, decide_false, reduceIte, and_self, Bool.false_eq_true, hb, hH1, lx, q, e0, e1, e2, e3, e4, e5, e6, l4, r1] <;> with_reducible rfl)))) | (with_reducible apply bind2_intro; (focus (first | with_reducible rfl | (simp only [walkR, get0, getS, Nat.zero_add, Nat.add_zero, Bool.not_true, Bool.not_false, decide_true, decide_false, reduceIte, and_self, Bool.false_eq_true, hb, hH1, lx, q, e0, e1, e2, e3, e4, e5, e6, l4, r1] <;> with_reducible rfl)))) | with_reducible apply cond_t | with_reducible apply cond_f))
    unfold F53_j1 F53_j0
    simp only [c6, if_true]
    exact ⟨trivial, back r2⟩
  have e6 : decide (p.act = 6) = false := dF c6
  simp only [c6, if_false]
  by_cases c7 : p.act = 7
  · have e7 : decide (p.act = 7) = true := dT c7
    have st : astore lim H1 1 (.ptr (some (b, 1))) (.bool false) = some (H1.set b (.cells [sl, .bool false, .int .i64 (W.fuse : Int)])) := astore_cell h1.cells hlb rfl rfl (by show 1 < 3; omega) rfl
    (repeat (first | (with_reducible apply bindP_intro; (focus (first | with_reducible rfl | (simp only [walkR, get0, getS, Nat.zero_add, Nat.add_zero, Bool.not_true, Bool.not_false, decide_true, decide_false, reduceIte, and_self, Bool.false_eq_true, hb, hH1, lx, q, e0, e1, e2, e3, e4, e5, e6, e7, st] <;> with_reducible rfl)))) | (with_reducible apply bind2_intro; (focus (first | with_reducible rfl | (simp only [walkR, get0, getS, Nat.zero_add, Nat.add_zero, Bool.not_true, Bool.not_false, decide_true, decide_false, reduceIte, and_self, Bool.false_eq_true, hb, hH1, lx, q, e0, e1, e2, e3, e4, e5, e6, e7, st] <;> with_reducible rfl)))) | with_reducible apply cond_t | with_reducible apply cond_f))
    unfold F53_j2 F53_j1 F53_j0
    simp only [c7, if_true]
    exact ⟨trivial, .same (h1.setb hXb (W' := startD W) rfl) (fun c e => by rw [Heap.next_set]; exact hX1 c e) hXv (frx.set' (.inl (.inl rfl)))⟩
  have e7 : decide (p.act = 7) = false := dF c7
  simp only [c7, if_false]
  (repeat (first | (with_reducible apply bindP_intro; (focus (first | with_reducible rfl | (simp only [walkR, get0, getS, Nat.zero_add, Nat.add_zero, Bool.not_true, Bool.not_false, decide_true, decide_false, reduceIte, and_self, Bool.false_eq_true, hb, hH1, lx, q, e0, e1, e2, e3, e4, e5, e6, e7] <;> with_reducible rfl)))) | (with_reducible apply bind2_intro; (focus (first | with_reducible rfl | (simp only [walkR, get0, getS, Nat.zero_add, Nat.add_zero, Bool.not_true, Bool.not_false, decide_true, decide_false, reduceIte, and_self, Bool.false_eq_true, hb, hH1, lx, q, e0, e1, e2, e3, e4, e5, e6, e7] <;> with_reducible rfl)))) | with_reducible apply cond_t | with_reducible apply cond_f))
  unfold F53_j2 F53_j1 F53_j0
  exact ⟨rfl, same⟩

/-! ## How they stand -/

theorem stands_loop {n lim N K1 : Nat} {bd md : Nat} {D : Dsk} {v1 : AVal} {K : AVal → Heap → Prop} {Hs : Heap} (hlim : lim ≤ Hs.next) (hd : DiskAt X Hs bd md D) (hr : RefAt X Hs b bv sl D) (hA : DskOK K1 D) (hK1 : K1 ≤ 50000000) (hn : K1 < n) (s1 : Sl Hs 1 v1 (encR (D.fs.map (·.1)))) (hK : ∀ H', Keeps2 Hs H' → K (.bool true) H') :
    ∀ (j i : Nat) (H : Heap), Keeps2 Hs H → D.fs.length < j + i → i ≤ D.fs.length → F54_l0 (Ahs.runT ap (n + 4)) lim N K j (ptr bd) (ptr b) v1 (.int .i64 (i : Int)) H
  | 0, i, H, _, h, h' => by exfalso; omega
  | j + 1, i, H, k0, hj, hi => by
    show F54_s0 _ _ _ _ (F54_l0 _ _ _ _ j) _ _ _ _ _
    unfold F54_s0
    have hl := hA.len
    have hl1 : alen false v1 = some (.int .i64 (D.fs.length : Int)) := by rw [s1.len, encR_len]; simp
    have hH := hr.keep k0
    have k0n := k0.next
    by_cases hil : i < D.fs.length
    · have hdc : decide ((i : Int) < (D.fs.length : Int)) = true := dT (by omega)
      have hpp : D.fs[i]? = some D.fs[i] := List.getElem?_eq_getElem hil
      have hmem := List.getElem_mem hil
      generalize D.fs[i] = p at hpp hmem
      have hnx : (D.fs.map (·.1))[i]? = some p.1 := by rw [List.getElem?_map, hpp]; rfl
      have hlk : lk D.fs p.1 = some p.2 := lk_of_mem hA.asc.nodup hmem
      have hfo := hA.files p.1 p.2 hmem
      have hmy := hfo.many
      obtain ⟨p1, p2, p3⟩ := sl_at s1 (encR_get hnx)
      obtain ⟨q, o, bq, rp, e1, rfl, e2, e3, e4⟩ := hr.at' hpp
      have e2 := aload_keep k0 e2
      have e3c := rfAt_cells e3
      have e3k := e3.keep k0
      have hi1 : IntKind.i64.wrap ((i : Int) + 1) = ((i + 1 : Nat) : Int) := i64_succ (by omega)
      have st : astore lim (H.push (.cells z11b428)) 5 (.ptr (some (H.next, 0))) (.agg (rfV p.1 rp p.2.syn p.2.cut p.2.torn)) = some (H.push (.cells (rfV p.1 rp p.2.syn p.2.cut p.2.torn))) := astore_new (cs := z11b428) (x := .agg (rfV p.1 rp p.2.syn p.2.cut p.2.torn)) (by omega) rfl rfl e3c.2
      have kx : Keeps2 H (H.push (.cells (rfV p.1 rp p.2.syn p.2.cut p.2.torn))) := .push _ _
      have cx : (H.push (.cells (rfV p.1 rp p.2.syn p.2.cut p.2.torn))).cells H.next = some (rfV p.1 rp p.2.syn p.2.cut p.2.torn) := cells_push_new _ _
      generalize H.push (.cells (rfV p.1 rp p.2.syn p.2.cut p.2.torn)) = G at *
      have kG := k0.trans kx
      have kGn := kG.next
      obtain ⟨_, G1, r1, rfl, r3⟩ := records_c (n := n + 2) (lim := lim) (hd.keep kG) (by omega) p.1
      have r3n := r3.next
      obtain ⟨_, G2, t1, rfl, t3⟩ := read_c (n := n) (lim := lim) (hd.keep (kG.trans r3)) hA (by omega) (by omega) p.1
      rw [recsD_some hlk] at r1
      have k2 := (kG.trans r3).trans t3
      have kx2 := (kx.trans r3).trans t3
      have c2 := (r3.trans t3).cells cx
      have l0 : aload G2 none (.ptr (some (H.next, 0))) = some (.str p.1) := by rw [aload_one c2]; rfl
      have l1 : aload G2 none (.ptr (some (H.next, 1))) = some rp := by rw [aload_one c2]; rfl
      have l2 : aload G2 none (.ptr (some (H.next, 2))) = some (.int .i64 (p.2.syn : Int)) := by rw [aload_one c2]; rfl
      have hself : (!(p.1 == p.1)) = false := by simp
      obtain ⟨rs', w0, w1, w2⟩ := e3
      simp only [List.cons.injEq, true_and, and_true] at w0
      obtain ⟨rfl, _⟩ := w0
      have hrl : alen false rp = some (.int .i64 (p.2.recs.length : Int)) := by rw [w1.sl.len, encR_len]
      have hq1 : (((p.2.recs.length : Nat) : Int) != ((p.2.recs.length : Nat) : Int)) = false := by simp
      have hq2 : (((p.2.syn : Nat) : Int) != ((p.2.syn : Nat) : Int)) = false := by simp
      have hld : aload G2 none (.ptr (some (b, 1))) = some (.bool D.off) := by rw [aload_one (k2.cells hr.cells)]; rfl
      cases ho : D.off with
      | true =>
        rw [ho] at hld
        (repeat (first | (with_reducible apply bindP_intro; (focus (first | with_reducible rfl | (simp only [walkR, get0, getS, Nat.zero_add, Nat.add_zero, Bool.not_true, Bool.not_false, decide_true, decide_false, reduceIte, and_self, Bool.false_eq_true, hl1, hdc, aload_one hH.cells, e1, e2, st, p2, aload_keep kG p3, r1, aload_keep (kG.trans r3) p3, t1, aload_keep k2 p3, l0, hself, l1, hrl, hq1, l2, hq2, hld, hi1] <;> with_reducible rfl)))) | (with_reducible apply bind2_intro; (focus (first | with_reducible rfl | (simp only [walkR, get0, getS, Nat.zero_add, Nat.add_zero, Bool.not_true, Bool.not_false, decide_true, decide_false, reduceIte, and_self, Bool.false_eq_true, hl1, hdc, aload_one hH.cells, e1, e2, st, p2, aload_keep kG p3, r1, aload_keep (kG.trans r3) p3, t1, aload_keep k2 p3, l0, hself, l1, hrl, hq1, l2, hq2, hld, hi1] <;> with_reducible rfl)))) | with_reducible apply cond_t | with_reducible apply cond_f))
        exact stands_loop hlim hd hr hA hK1 hn s1 hK j (i + 1) G2 k2 (by omega) (by omega)
      | false =>
        rw [ho] at hld
        rw [readD_some ho hlk] at t1
        obtain ⟨_, G3, u1, rfl, u3⟩ := rBytes_c (n := n + 3) (lim := lim) (e3k.keep kx2) (hfo.mono (by omega)) (by omega)
        have hb : (!(bytesF p.2 == bytesF p.2)) = false := by simp
        have h00 : ((0 : Int) != 0) = false := rfl
        (repeat (first | (with_reducible apply bindP_intro; (focus (first | with_reducible rfl | (simp only [walkR, get0, getS, Nat.zero_add, Nat.add_zero, Bool.not_true, Bool.not_false, decide_true, decide_false, reduceIte, and_self, Bool.false_eq_true, hl1, hdc, aload_one hH.cells, e1, e2, st, p2, aload_keep kG p3, r1, aload_keep (kG.trans r3) p3, t1, aload_keep k2 p3, l0, hself, l1, hrl, hq1, l2, hq2, hld, aload_all (n := 5) c2 rfl, u1, hb, h00, hi1] <;> with_reducible rfl)))) | (with_reducible apply bind2_intro; (focus (first | with_reducible rfl | (simp only [walkR, get0, getS, Nat.zero_add, Nat.add_zero, Bool.not_true, Bool.not_false, decide_true, decide_false, reduceIte, and_self, Bool.false_eq_true, hl1, hdc, aload_one hH.cells, e1, e2, st, p2, aload_keep kG p3, r1, aload_keep (kG.trans r3) p3, t1, aload_keep k2 p3, l0, hself, l1, hrl, hq1, l2, hq2, hld, aload_all (n := 5) c2 rfl, u1, hb, h00, hi1] <;> with_reducible rfl)))) | with_reducible apply cond_t | with_reducible apply cond_f))
        exact stands_loop hlim hd hr hA hK1 hn s1 hK j (i + 1) G3 (k2.trans u3) (by omega) (by omega)
    · have hdc : decide ((i : Int) < (D.fs.length : Int)) = false := dF (by omega)
      (repeat (first | (with_reducible apply bindP_intro; (focus (first | with_reducible rfl | (simp only [walkR, get0, getS, Nat.zero_add, Nat.add_zero, Bool.not_true, Bool.not_false, decide_true, decide_false, reduceIte, and_self, Bool.false_eq_true, hl1, hdc] <;> with_reducible rfl)))) | (with_reducible apply bind2_intro; (focus (first | with_reducible rfl | (simp only [walkR, get0, getS, Nat.zero_add, Nat.add_zero, Bool.not_true, Bool.not_false, decide_true, decide_false, reduceIte, and_self, Bool.false_eq_true, hl1, hdc] <;> with_reducible rfl)))) | with_reducible apply cond_t | with_reducible apply cond_f))
      unfold F54_j0
      exact hK H k0

theorem stands_c {n lim K1 : Nat} {bd md : Nat} {D : Dsk} (hlim : lim ≤ H.next) (hd : DiskAt X H bd md D) (hr : RefAt X H b bv sl D) (hA : DskOK K1 D) (hK1 : K1 ≤ 50000000) (hn : K1 < n) :
    ∃ v H', Ahs.runT ap (n + 5) lim (.fn 54) [ptr bd, ptr b] H = some (v, H') ∧ v = .bool true ∧ Keeps2 H H' := by
  refine F54_run a54 ?_
  unfold F54
  obtain ⟨v1, H1, e1, e2, e3, e4⟩ := list_c (n := n + 3) (lim := lim) hd hA (by omega)
  have hl := hA.len
  have hl1 : alen false v1 = some (.int .i64 (D.fs.length : Int)) := by rw [e2.len, encR_len]; simp
  have hr1 := hr.keep e3
  have hd1 := hd.keep e3
  have e3n := e3.next
  have dn := down_c (n := n + 2) (lim := H1.next) hd1
  have fu := fused_c (n := n + 2) (lim := H1.next) hd1
  have hn1 : (((D.fs.length : Nat) : Int) != ((D.fs.length : Nat) : Int)) = false := by simp
  have hf : ((D.fuse : Int) != (D.fuse : Int)) = false := by simp
  have ho : eqvO true .bool (.bool D.off) (.bool D.off) = some (.bool false) := by rw [eqvO_bool]; simp
  (repeat (first | (with_reducible apply bindP_intro; (focus (first | with_reducible rfl | (simp only [walkR, get0, getS, Nat.zero_add, Nat.add_zero, Bool.not_true, Bool.not_false, decide_true, decide_false, reduceIte, and_self, Bool.false_eq_true, e1, hl1, aload_one hr1.cells, hr1.len, hn1, dn, ho, fu, hf] <;> with_reducible rfl)))) | (with_reducible apply bind2_intro; (focus (first | with_reducible rfl | (simp only [walkR, get0, getS, Nat.zero_add, Nat.add_zero, Bool.not_true, Bool.not_false, decide_true, decide_false, reduceIte, and_self, Bool.false_eq_true, e1, hl1, aload_one hr1.cells, hr1.len, hn1, dn, ho, fu, hf] <;> with_reducible rfl)))) | with_reducible apply cond_t | with_reducible apply cond_f))
  exact stands_loop (n := n) (by omega) hd1 hr1 hA hK1 hn e2 (fun H' k => ⟨rfl, e3.trans k⟩) (n + 4) 0 H1 (.refl _) (by omega) (Nat.zero_le _)

/-! ## The law -/

theorem dplays_loop {n lim N : Nat} {K : AVal → Heap → Prop} {v : AVal} {l : List PAct} {H0 : Heap} {bd md br : Nat} (hlb : lim ≤ bd) (hlm : lim ≤ md) (hlr : lim ≤ br) (h0 : ActsAt H0 v l) (hb0 : H0.next ≤ bd) (hm0 : H0.next ≤ md) (hr0 : H0.next ≤ br) (hok : ∀ p ∈ l, p.ok) (hlen : l.length ≤ 100) (hn : 100000000 ≤ n) (hbr : br ≠ bd ∧ br ≠ md) (hK : ∀ H', K (.bool true) H') :
    ∀ (j i : Nat) (H : Heap) (D : Dsk) (K1 bv : Nat) (sl : AVal) (X : Nat → Prop), DiskAt X H bd md D → RefAt X H br bv sl D → DskOK K1 D → K1 + (l.length - i) * 20001 ≤ 40000000 → Keeps2 H0 H → (∀ c, X c → c < H.next) → X bd → X md → X br → X bv → H0.next ≤ bv → lim ≤ bv → bv ≠ bd ∧ bv ≠ md → lim ≤ H.next → l.length < j + i → i ≤ l.length →
      F10_l0 (Ahs.runT ap (n + 6)) lim N K j v (ptr bd) (ptr br) (.int .i64 (i : Int)) H
  | 0, i, H, D, K1, bv, sl, X, _, _, _, _, _, _, _, _, _, _, _, _, _, _, h, h' => by exfalso; omega
  | j + 1, i, H, D, K1, bv, sl, X, hD, hR, hA, hK1, k0, hX, x1, x2, x3, x4, hv0, hlv, hvn, hlim, hj, hi => by
    show F10_s0 _ _ _ _ (F10_l0 _ _ _ _ j) _ _ _ _ _
    unfold F10_s0
    have hAl := (h0.keepH k0).alen
    by_cases hil : i < l.length
    · have hd : decide ((i : Int) < (l.length : Int)) = true := dT (by omega)
      have hp : l[i]? = some l[i] := List.getElem?_eq_getElem hil
      have hpo := hok l[i] (List.getElem_mem hil)
      generalize l[i] = p at hp hpo
      obtain ⟨q, ks, ts, e1, e2, e3, _⟩ := h0.at' hp
      have hi1 : IntKind.i64.wrap ((i : Int) + 1) = ((i + 1 : Nat) : Int) := i64_succ (by omega)
      have hK1' : K1 + 20001 + (l.length - (i + 1)) * 20001 ≤ 40000000 := by
        have : l.length - i = (l.length - (i + 1)) + 1 := by omega
        rw [this, Nat.succ_mul] at hK1
        omega
      obtain ⟨_, H1, r1, rfl, r3, r4⟩ := does_c (n := n) (lim := lim) hD hA (by omega) x1 x2 hlb hlm hX (by omega) k0 hb0 hm0 e3 hpo
      have inX : ∀ c, dft bd md c → X c := fun c e => by rcases e with rfl | rfl <;> assumption
      have k1 : Keeps2 H0 H1 := Fram.keeps k0 r4 fun c hc e => by rcases e with e | e <;> omega
      have r4n := r4.next
      have hR1 := hR.frame r4 (fun e => by rcases e with e | e; exact hbr.1 e; exact hbr.2 e) (fun e => by rcases e with e | e; exact hvn.1 e; exact hvn.2 e) inX
      have hX1 : ∀ c, X c → c < H1.next := fun c e => by have := hX c e; omega
      obtain ⟨_, H2, s1, rfl, ⟨sl2, bv2, s2, s3, s4⟩, s5⟩ := said_c (n := n + 3) (lim := lim) hR1 hA (by omega) x3 x4 hlr hlv hX1 (by omega) k1 hr0 e3 hpo
      have s5n := s5.next
      have k2 : Keeps2 H0 H2 := Fram.keeps k1 s5 fun c hc e => by rcases e with e | e <;> omega
      have bdl := hX bd x1
      have mdl := hX md x2
      have bvl := hX bv x4
      have hD2 : DiskAt (fun c => X c ∨ c = bv2) H2 bd md (doesD D p).2 := (r3.more fun c hc e => by
        rcases e with e | rfl
        · exact e
        · rcases s3 with rfl | s3
          · exact x4
          · omega).frame s5 (fun e => by rcases e with e | e; exact hbr.1 e.symm; exact hvn.1 e.symm) (fun e => by rcases e with e | e; exact hbr.2 e.symm; exact hvn.2 e.symm) fun c e => by rcases e with rfl | rfl; exact .inl x3; exact .inl x4
      have hA2 := doesD_ok hA hpo
      obtain ⟨_, H3, t1, rfl, t3⟩ := stands_c (n := n + 1) (lim := lim) (by omega) hD2 s2 hA2 (by omega) (by omega)
      have t3n := t3.next
      have hs1 : (!((doesD D p).1.1 == (doesD D p).1.1)) = false := by simp
      have hs2 : ((doesD D p).1.2 != (doesD D p).1.2) = false := by simp
      have hX3 : ∀ c, (X c ∨ c = bv2) → c < H3.next := fun c e => by
        rcases e with e | rfl
        · have := hX c e; omega
        · omega
      have k1n := k1.next
      have hv2 : H0.next ≤ bv2 := by rcases s3 with rfl | s3; exact hv0; omega
      have hl2 : lim ≤ bv2 := by rcases s3 with rfl | s3; exact hlv; omega
      have hn2 : bv2 ≠ bd ∧ bv2 ≠ md := by
        rcases s3 with rfl | s3
        · exact hvn
        · exact ⟨by omega, by omega⟩
      (repeat (first | (with_reducible apply bindP_intro; (focus (first | with_reducible rfl | (simp only [walkR, get0, getS, Nat.zero_add, Nat.add_zero, Bool.not_true, Bool.not_false, decide_true, decide_false, reduceIte, and_self, Bool.false_eq_true, hAl, hd, e1, aload_keep k0 e2, r1, aload_keep k1 e2, s1, hs1, hs2, t1, hi1] <;> with_reducible rfl)))) | (with_reducible apply bind2_intro; (focus (first | with_reducible rfl | (simp only [walkR, get0, getS, Nat.zero_add, Nat.add_zero, Bool.not_true, Bool.not_false, decide_true, decide_false, reduceIte, and_self, Bool.false_eq_true, hAl, hd, e1, aload_keep k0 e2, r1, aload_keep k1 e2, s1, hs1, hs2, t1, hi1] <;> with_reducible rfl)))) | with_reducible apply cond_t | with_reducible apply cond_f))
      exact dplays_loop hlb hlm hlr h0 hb0 hm0 hr0 hok hlen hn hbr hK j (i + 1) H3 (doesD D p).2 (K1 + 20001) bv2 sl2 _ (hD2.keep t3) (s2.keep t3) hA2 hK1' (k2.trans t3) hX3 (.inl x1) (.inl x2) (.inl x3) (.inr rfl)
        hv2 hl2 hn2 (by omega) (by omega) (by omega)
    · have hd : decide ((i : Int) < (l.length : Int)) = false := dF (by omega)
      (repeat (first | (with_reducible apply bindP_intro; (focus (first | with_reducible rfl | (simp only [walkR, get0, getS, Nat.zero_add, Nat.add_zero, Bool.not_true, Bool.not_false, decide_true, decide_false, reduceIte, and_self, Bool.false_eq_true, hAl, hd] <;> with_reducible rfl)))) | (with_reducible apply bind2_intro; (focus (first | with_reducible rfl | (simp only [walkR, get0, getS, Nat.zero_add, Nat.add_zero, Bool.not_true, Bool.not_false, decide_true, decide_false, reduceIte, and_self, Bool.false_eq_true, hAl, hd] <;> with_reducible rfl)))) | with_reducible apply cond_t | with_reducible apply cond_f))
      unfold F10_j0
      have haw : ∀ G, Ahs.runT ap (n + 6) lim (.fn 38) [] G = some (.bool true, G) := fun G => b38
      (repeat (first | (with_reducible apply bindP_intro; (focus (first | with_reducible rfl | (simp only [walkR, get0, getS, Nat.zero_add, Nat.add_zero, Bool.not_true, Bool.not_false, decide_true, decide_false, reduceIte, and_self, Bool.false_eq_true, haw] <;> with_reducible rfl)))) | (with_reducible apply bind2_intro; (focus (first | with_reducible rfl | (simp only [walkR, get0, getS, Nat.zero_add, Nat.add_zero, Bool.not_true, Bool.not_false, decide_true, decide_false, reduceIte, and_self, Bool.false_eq_true, haw] <;> with_reducible rfl)))) | with_reducible apply cond_t | with_reducible apply cond_f))
      exact hK H

theorem dplays {n : Nat} {a0 : AVal} {l : List PAct} (hA0 : ActsAt H a0 l) (hn : 200000000 ≤ n) :
    ∃ v H', Ahs.runT ap (n + 8) H.next (.fn 10) [a0] H = some (v, H') ∧ v = .bool true := by
  refine F10_run a10 ?_
  unfold F10
  obtain ⟨_, H1, g1, k1, t1, rfl, ok1⟩ := great_c (n := n + 5) (lim := H.next) hA0 (by omega)
  have haw : ∀ G, Ahs.runT ap (n + 7) H.next (.fn 38) [] G = some (.bool true, G) := fun G => b38
  cases t1 with
  | true =>
    (repeat (first | (with_reducible apply bindP_intro; (focus (first | with_reducible rfl | (simp only [walkR, get0, getS, Nat.zero_add, Nat.add_zero, Bool.not_true, Bool.not_false, decide_true, decide_false, reduceIte, and_self, Bool.false_eq_true, g1, haw] <;> with_reducible rfl)))) | (with_reducible apply bind2_intro; (focus (first | with_reducible rfl | (simp only [walkR, get0, getS, Nat.zero_add, Nat.add_zero, Bool.not_true, Bool.not_false, decide_true, decide_false, reduceIte, and_self, Bool.false_eq_true, g1, haw] <;> with_reducible rfl)))) | with_reducible apply cond_t | with_reducible apply cond_f))
    exact rfl
  | false =>
    obtain ⟨len1, ok1, hne1⟩ := ok1 rfl
    have k1n := k1.next
    obtain ⟨b, m, H2, n1, n2, n3, n4, n5, n6, n7⟩ := new_c (M := fun _ => False) (n := n + 6) (lim := H.next) (H := H1) k1n
    have n3n := n3.next
    have hbu : buildO z6243a3 [] = some (.agg [.sl none 0 (.ex 0), .bool false, .int .i64 0]) := rfl
    have hon : (([.sl none 0 (.ex 0), .bool false, .int .i64 0] : List AVal).all fun v => v.one) = true := rfl
    have kx : Keeps2 H2 (H2.push (.cells [.sl none 0 (.ex 0), .bool false, .int .i64 0])) := .push _ _
    have nx : (H2.push (.cells [.sl none 0 (.ex 0), .bool false, .int .i64 0])).next = H2.next + 1 := Heap.next_push _ _
    (repeat (first | (with_reducible apply bindP_intro; (focus (first | with_reducible rfl | (simp only [walkR, get0, getS, Nat.zero_add, Nat.add_zero, Bool.not_true, Bool.not_false, decide_true, decide_false, reduceIte, and_self, Bool.false_eq_true, g1, n1, hbu, hon] <;> with_reducible rfl)))) | (with_reducible apply bind2_intro; (focus (first | with_reducible rfl | (simp only [walkR, get0, getS, Nat.zero_add, Nat.add_zero, Bool.not_true, Bool.not_false, decide_true, decide_false, reduceIte, and_self, Bool.false_eq_true, g1, n1, hbu, hon] <;> with_reducible rfl)))) | with_reducible apply cond_t | with_reducible apply cond_f))
    have hl : l.length * 20001 ≤ 2000100 := by omega
    have haw6 : ∀ G, Ahs.runT ap (n + 7) H.next (.fn 38) [] G = some (.bool true, G) := fun G => b38
    by_cases hnil : l = []
    · show F10_s0 _ _ _ _ (F10_l0 _ _ _ _ (n + 6)) _ _ _ _ _
      unfold F10_s0
      have hal := (hA0.keepH ((k1.trans n3).trans kx)).alen
      rw [hnil] at hal
      have hd0 : decide ((((0 : Nat) : Nat) : Int) < ((([] : List PAct).length : Nat) : Int)) = false := rfl
      have hd0' : decide ((0 : Int) < ((([] : List PAct).length : Nat) : Int)) = false := rfl
      (repeat (first | (with_reducible apply bindP_intro; (focus (first | with_reducible rfl | (simp only [walkR, get0, getS, Nat.zero_add, Nat.add_zero, Bool.not_true, Bool.not_false, decide_true, decide_false, reduceIte, and_self, Bool.false_eq_true, hal, hd0, hd0'] <;> with_reducible rfl)))) | (with_reducible apply bind2_intro; (focus (first | with_reducible rfl | (simp only [walkR, get0, getS, Nat.zero_add, Nat.add_zero, Bool.not_true, Bool.not_false, decide_true, decide_false, reduceIte, and_self, Bool.false_eq_true, hal, hd0, hd0'] <;> with_reducible rfl)))) | with_reducible apply cond_t | with_reducible apply cond_f))
      unfold F10_j0
      (repeat (first | (with_reducible apply bindP_intro; (focus (first | with_reducible rfl | (simp only [walkR, get0, getS, Nat.zero_add, Nat.add_zero, Bool.not_true, Bool.not_false, decide_true, decide_false, reduceIte, and_self, Bool.false_eq_true, haw6] <;> with_reducible rfl)))) | (with_reducible apply bind2_intro; (focus (first | with_reducible rfl | (simp only [walkR, get0, getS, Nat.zero_add, Nat.add_zero, Bool.not_true, Bool.not_false, decide_true, decide_false, reduceIte, and_self, Bool.false_eq_true, haw6] <;> with_reducible rfl)))) | with_reducible apply cond_t | with_reducible apply cond_f))
      exact rfl
    · have hlt := hne1 hnil
      have hne := n2.ne
      have hd : DiskAt (fun c => c = b ∨ c = m ∨ c = H2.next ∨ c = H.next) (H2.push (.cells [.sl none 0 (.ex 0), .bool false, .int .i64 0])) b m newD :=
        ⟨kx.cells n2.cells, n2.map.mono (kx.get m n7) fun _ _ _ h => by simp [newD] at h⟩
      have hr : RefAt (fun c => c = b ∨ c = m ∨ c = H2.next ∨ c = H.next) (H2.push (.cells [.sl none 0 (.ex 0), .bool false, .int .i64 0])) H2.next H.next (.sl none 0 (.ex 0)) newD :=
        ⟨cells_push_new _ _, ⟨[], ⟨fun _ h => by simp at h, .inl ⟨rfl, rfl⟩⟩, .nil⟩, by omega⟩
      exact dplays_loop (n := n + 1) (N := n + 7) (by omega) (by omega) (by omega) hA0 (by omega) (by omega) (by omega) ok1 len1 (by omega) ⟨by omega, by omega⟩ (fun _ => rfl) (n + 7) 0 _ newD 0 H.next _ _ hd hr newD_ok (by simp only [Nat.sub_zero]; omega) ((k1.trans n3).trans kx) (fun c e => by omega) (.inl rfl) (.inr (.inl rfl)) (.inr (.inr (.inl rfl))) (.inr (.inr (.inr rfl))) (Nat.le_refl _) (Nat.le_refl _) ⟨by omega, by omega⟩ (by omega) (by omega) (Nat.zero_le _)

theorem dplays_walk (H : Heap) (vs : List AVal) (h : WfArgs H [(false, .slice actTy .nil)] vs) : ∃ n, isTrue (run ap n H.next 10 vs H) = true := by
  obtain ⟨a0, _, rfl, h0, rfl⟩ := h
  simp only [Bool.false_eq_true, if_false] at h0
  obtain ⟨l0, A0⟩ := wf_acts h0
  exact ⟨_, isTrue_run (dplays (n := 200000000) A0 (Nat.le_refl _))⟩

end
end Go.Proofs.Ytjflpnahjooffaa.disk
