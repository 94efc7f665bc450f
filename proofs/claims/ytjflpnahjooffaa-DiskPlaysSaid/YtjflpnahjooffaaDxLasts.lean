/- DiskLasts: what was synced is there behind any crashes. -/
import Derived.Test.YtjflpnahjooffaaDxActs
set_option maxRecDepth 100000
set_option linter.unusedVariables false
set_option linter.unusedSimpArgs false
namespace Go.Proofs.Ytjflpnahjooffaa.disk
open Go.Ahs

section
variable {M : Nat → Prop} {H : Heap} {b m : Nat} {D : Dsk}

theorem act_eq (p : PAct) (k : Int) : (p.act == k) = decide (p.act = k) := by rw [Bool.eq_iff_iff]; simp
theorem act_ne (p : PAct) (k : Int) : (p.act != k) = !decide (p.act = k) := by rw [Bool.eq_iff_iff]; simp

set_option maxHeartbeats 2000000 in
/-- The acts behind, of which those that delete, or rename, are left out. -/
theorem lasts_loop {n lim N : Nat} {K : AVal → Heap → Prop} {v : AVal} {l : List PAct} {H0 : Heap} {t2 t7 t10 t11 t12 : AVal} (hMb : M b) (hMm : M m) (hlb : lim ≤ b) (hlm : lim ≤ m) (h0 : ActsAt H0 v l) (hb0 : H0.next ≤ b) (hm0 : H0.next ≤ m) (hok : ∀ p ∈ l, p.ok) (hlen : l.length ≤ 100) (hn : 50000000 ≤ n)
    {Hs : Heap} (hM : ∀ c, M c → c < Hs.next)
    (hK : ∀ D' H' K', DiskAt M H' b m D' → Fram (dft b m) Hs H' → D' = playsD D (l.filter mild) → DskOK K' D' → K' ≤ 50000000 → F8_j0 (Ahs.runT ap (n + 6)) lim N K t2 t7 (ptr b) t10 t11 t12 H') :
    ∀ (j i : Nat) (H : Heap) (D1 : Dsk) (K1 : Nat), DiskAt M H b m D1 → DskOK K1 D1 → K1 + (l.length - i) * 20001 ≤ 50000000 → Keeps2 H0 H → Fram (dft b m) Hs H → l.length < j + i → i ≤ l.length → playsD D (l.filter mild) = playsD D1 ((l.drop i).filter mild) →
      F8_l0 (Ahs.runT ap (n + 6)) lim N K j v t2 t7 (ptr b) t10 t11 t12 (.int .i64 (i : Int)) H
  | 0, i, H, D1, K1, _, _, _, _, _, h, h', _ => by exfalso; omega
  | j + 1, i, H, D1, K1, hd1, hD1, hK1, k0, fr, hj, hi, hpl => by
    show F8_s0 _ _ _ _ (F8_l0 _ _ _ _ j) _ _ _ _ _ _ _ _ _
    unfold F8_s0
    have hA := h0.keepH k0
    by_cases hil : i < l.length
    · have hd : decide ((i : Int) < (l.length : Int)) = true := dT (by omega)
      have hp : l[i]? = some l[i] := List.getElem?_eq_getElem hil
      have hpo := hok l[i] (List.getElem_mem hil)
      have hdrop : (l.drop i).filter mild = if mild l[i] = true then l[i] :: (l.drop (i + 1)).filter mild else (l.drop (i + 1)).filter mild := by
        rw [List.drop_eq_getElem_cons hil, List.filter_cons]
      generalize l[i] = p at hp hpo hdrop
      obtain ⟨q, ks, ts, e1, e2, e3, o, bq, rfl, e4, _⟩ := h0.at' hp
      have e2 := aload_keep k0 e2
      have e4 : aload H none (.ptr (some (bq, o))) = some (.int .u8 p.act) := aload_keep k0 (e4 0 (by omega))
      have hi1 : IntKind.i64.wrap ((i : Int) + 1) = ((i + 1 : Nat) : Int) := i64_succ (by omega)
      have hfn := fr.next
      have hK1' : K1 + 20001 + (l.length - (i + 1)) * 20001 ≤ 50000000 := by
        have : l.length - i = (l.length - (i + 1)) + 1 := by omega
        rw [this, Nat.succ_mul] at hK1
        omega
      have skip : mild p = false → F8_j1 (Ahs.runT ap (n + 6)) lim N K (F8_l0 (Ahs.runT ap (n + 6)) lim N K j) v t2 t7 (ptr b) t10 t11 t12 (.int .i64 (i : Int)) H := by
        intro hm
        unfold F8_j1
        (repeat (first | (with_reducible apply bindP_intro; (focus (first | with_reducible rfl | (simp only [walkR, get0, getS, Nat.zero_add, Nat.add_zero, Bool.not_true, Bool.not_false, decide_true, decide_false, reduceIte, and_self, Bool.false_eq_true, hi1] <;> with_reducible rfl)))) | (with_reducible apply bind2_intro; (focus (first | with_reducible rfl | (simp only [walkR, get0, getS, Nat.zero_add, Nat.add_zero, Bool.not_true, Bool.not_false, decide_true, decide_false, reduceIte, and_self, Bool.false_eq_true, hi1] <;> with_reducible rfl)))) | with_reducible apply cond_t | with_reducible apply cond_f))
        refine lasts_loop hMb hMm hlb hlm h0 hb0 hm0 hok hlen hn hM hK j (i + 1) H D1 K1 hd1 hD1 (by omega) k0 fr (by omega) (by omega) ?_
        rw [hpl, hdrop, hm]; simp
      by_cases h2 : p.act = 2
      · have d2 : decide (p.act = 2) = true := dT h2
        (repeat (first | (with_reducible apply bindP_intro; (focus (first | with_reducible rfl | (simp only [walkR, get0, getS, Nat.zero_add, Nat.add_zero, Bool.not_true, Bool.not_false, decide_true, decide_false, reduceIte, and_self, Bool.false_eq_true, hA.alen, hd, e1, e4, act_ne, d2] <;> with_reducible rfl)))) | (with_reducible apply bind2_intro; (focus (first | with_reducible rfl | (simp only [walkR, get0, getS, Nat.zero_add, Nat.add_zero, Bool.not_true, Bool.not_false, decide_true, decide_false, reduceIte, and_self, Bool.false_eq_true, hA.alen, hd, e1, e4, act_ne, d2] <;> with_reducible rfl)))) | with_reducible apply cond_t | with_reducible apply cond_f))
        exact skip (by unfold mild; rw [d2]; rfl)
      · have d2 : decide (p.act = 2) = false := dF h2
        by_cases h3 : p.act = 3
        · have d3 : decide (p.act = 3) = true := dT h3
          (repeat (first | (with_reducible apply bindP_intro; (focus (first | with_reducible rfl | (simp only [walkR, get0, getS, Nat.zero_add, Nat.add_zero, Bool.not_true, Bool.not_false, decide_true, decide_false, reduceIte, and_self, Bool.false_eq_true, hA.alen, hd, e1, e4, act_ne, d2, d3] <;> with_reducible rfl)))) | (with_reducible apply bind2_intro; (focus (first | with_reducible rfl | (simp only [walkR, get0, getS, Nat.zero_add, Nat.add_zero, Bool.not_true, Bool.not_false, decide_true, decide_false, reduceIte, and_self, Bool.false_eq_true, hA.alen, hd, e1, e4, act_ne, d2, d3] <;> with_reducible rfl)))) | with_reducible apply cond_t | with_reducible apply cond_f))
          exact skip (by unfold mild; rw [d3]; simp)
        · have d3 : decide (p.act = 3) = false := dF h3
          obtain ⟨r, H', r1, r2, r3, r4⟩ := does_c (n := n) (lim := lim) hd1 hD1 (by omega) hMb hMm hlb hlm (fun c e => by have := hM c e; omega) (by omega) k0 hb0 hm0 e3 hpo
          (repeat (first | (with_reducible apply bindP_intro; (focus (first | with_reducible rfl | (simp only [walkR, get0, getS, Nat.zero_add, Nat.add_zero, Bool.not_true, Bool.not_false, decide_true, decide_false, reduceIte, and_self, Bool.false_eq_true, hA.alen, hd, e1, e4, act_ne, d2, d3, e2, r1] <;> with_reducible rfl)))) | (with_reducible apply bind2_intro; (focus (first | with_reducible rfl | (simp only [walkR, get0, getS, Nat.zero_add, Nat.add_zero, Bool.not_true, Bool.not_false, decide_true, decide_false, reduceIte, and_self, Bool.false_eq_true, hA.alen, hd, e1, e4, act_ne, d2, d3, e2, r1] <;> with_reducible rfl)))) | with_reducible apply cond_t | with_reducible apply cond_f))
          unfold F8_j1
          (repeat (first | (with_reducible apply bindP_intro; (focus (first | with_reducible rfl | (simp only [walkR, get0, getS, Nat.zero_add, Nat.add_zero, Bool.not_true, Bool.not_false, decide_true, decide_false, reduceIte, and_self, Bool.false_eq_true, hi1] <;> with_reducible rfl)))) | (with_reducible apply bind2_intro; (focus (first | with_reducible rfl | (simp only [walkR, get0, getS, Nat.zero_add, Nat.add_zero, Bool.not_true, Bool.not_false, decide_true, decide_false, reduceIte, and_self, Bool.false_eq_true, hi1] <;> with_reducible rfl)))) | with_reducible apply cond_t | with_reducible apply cond_f))
          refine lasts_loop hMb hMm hlb hlm h0 hb0 hm0 hok hlen hn hM hK j (i + 1) H' _ (K1 + 20001) r3 (doesD_ok hD1 hpo) hK1' (Fram.keeps k0 r4 fun c hc e => by rcases e with e | e <;> omega) (fr.trans r4 fun c _ e => e) (by omega) (by omega) ?_
          rw [hpl, hdrop, if_pos (by unfold mild; rw [d2, d3]; rfl)]; rfl
    · have hd : decide ((i : Int) < (l.length : Int)) = false := dF (by omega)
      (repeat (first | (with_reducible apply bindP_intro; (focus (first | with_reducible rfl | (simp only [walkR, get0, getS, Nat.zero_add, Nat.add_zero, Bool.not_true, Bool.not_false, decide_true, decide_false, reduceIte, and_self, Bool.false_eq_true, hA.alen, hd] <;> with_reducible rfl)))) | (with_reducible apply bind2_intro; (focus (first | with_reducible rfl | (simp only [walkR, get0, getS, Nat.zero_add, Nat.add_zero, Bool.not_true, Bool.not_false, decide_true, decide_false, reduceIte, and_self, Bool.false_eq_true, hA.alen, hd] <;> with_reducible rfl)))) | with_reducible apply cond_t | with_reducible apply cond_f))
      refine hK D1 H K1 hd1 fr ?_ hD1 (by omega)
      rw [hpl, List.drop_eq_nil_of_le (by omega)]; rfl

theorem recsD_some {D : Dsk} {x : Str} {f : Fil} (h : lk D.fs x = some f) : recsD D x = (f.recs.length, f.syn) := by unfold recsD; rw [h]; rfl
theorem readD_some {D : Dsk} {x : Str} {f : Fil} (ho : D.off = false) (h : lk D.fs x = some f) : readD D x = (bytesF f, 0) := by unfold readD; rw [if_neg (by rw [ho]; simp), h]
theorem geq_dec (a b : Nat) : decide ((b : Int) ≤ (a : Int)) = decide (b ≤ a) := by rw [Bool.eq_iff_iff]; simp

set_option maxHeartbeats 4000000 in
theorem lasts {n : Nat} {a0 a1 ks ts : AVal} {l1 l2 : List PAct} {name : Str} {keep torn : List Int} (hA0 : ActsAt H a0 l1) (hA1 : ActsAt H a1 l2) (s1 : Sl H 1 ks (encI keep)) (s2 : Sl H 1 ts (encI torn)) (o1 : ks.one = true) (o2 : ts.one = true) (hi1 : ∀ y ∈ keep, inI64 y) (hi2 : ∀ y ∈ torn, inI64 y) (hn : 50000000 ≤ n) :
    ∃ v H', Ahs.runT ap (n + 8) H.next (.fn 8) [a0, a1, .str name, .agg [ks, ts]] H = some (v, H') ∧ v = .bool true := by
  refine F8_run a8 ?_
  unfold F8
  have hb : (([ks, ts] : List AVal).all fun v => v.one) = true := by simp only [List.all_cons, List.all_nil, o1, o2, Bool.and_true]
  have kx : Keeps2 H (H.push (.cells [ks, ts])) := .push _ _
  have cx : (H.push (.cells [ks, ts])).cells H.next = some [ks, ts] := cells_push_new _ _
  obtain ⟨_, H1, g1, k1, t1, rfl, ok1⟩ := great_c (n := n + 5) (lim := H.next) (hA0.keepH kx) (by omega)
  obtain ⟨_, H2, g2, k2, t2, rfl, ok2⟩ := great_c (n := n + 5) (lim := H.next) (hA1.keepH (kx.trans k1)) (by omega)
  have k02 : Keeps2 H H2 := (kx.trans k1).trans k2
  have lx2 : aload H2 (some 2) (.ptr (some (H.next, 0))) = some (.agg [ks, ts]) := aload_all ((k1.trans k2).cells cx) rfl
  have lx1 : aload H1 (some 2) (.ptr (some (H.next, 0))) = some (.agg [ks, ts]) := aload_all (k1.cells cx) rfl
  obtain ⟨_, H3, g3, rfl, k3, _⟩ := greatC_c (n := n + 6) (lim := H.next) (s1.keep k02) (s2.keep k02) o1 o2
  have k03 := k02.trans k3
  have haw : ∀ G, Ahs.runT ap (n + 7) H.next (.fn 38) [] G = some (.bool true, G) := fun G => b38
  cases t1 with
  | true =>
    (repeat (first | (with_reducible apply bindP_intro; (focus (first | with_reducible rfl | (simp only [walkR, get0, getS, Nat.zero_add, Nat.add_zero, Bool.not_true, Bool.not_false, decide_true, decide_false, reduceIte, and_self, Bool.false_eq_true, hb, g1, haw] <;> with_reducible rfl)))) | (with_reducible apply bind2_intro; (focus (first | with_reducible rfl | (simp only [walkR, get0, getS, Nat.zero_add, Nat.add_zero, Bool.not_true, Bool.not_false, decide_true, decide_false, reduceIte, and_self, Bool.false_eq_true, hb, g1, haw] <;> with_reducible rfl)))) | with_reducible apply cond_t | with_reducible apply cond_f))
    exact rfl
  | false =>
    obtain ⟨len1, ok1, _⟩ := ok1 rfl
    cases t2 with
    | true =>
      (repeat (first | (with_reducible apply bindP_intro; (focus (first | with_reducible rfl | (simp only [walkR, get0, getS, Nat.zero_add, Nat.add_zero, Bool.not_true, Bool.not_false, decide_true, decide_false, reduceIte, and_self, Bool.false_eq_true, hb, g1, g2, haw] <;> with_reducible rfl)))) | (with_reducible apply bind2_intro; (focus (first | with_reducible rfl | (simp only [walkR, get0, getS, Nat.zero_add, Nat.add_zero, Bool.not_true, Bool.not_false, decide_true, decide_false, reduceIte, and_self, Bool.false_eq_true, hb, g1, g2, haw] <;> with_reducible rfl)))) | with_reducible apply cond_t | with_reducible apply cond_f))
      exact rfl
    | false =>
      obtain ⟨len2, ok2, _⟩ := ok2 rfl
      cases hgc : greatC keep torn with
      | true =>
        rw [hgc] at g3
        (repeat (first | (with_reducible apply bindP_intro; (focus (first | with_reducible rfl | (simp only [walkR, get0, getS, Nat.zero_add, Nat.add_zero, Bool.not_true, Bool.not_false, decide_true, decide_false, reduceIte, and_self, Bool.false_eq_true, hb, g1, g2, lx2, g3, haw] <;> with_reducible rfl)))) | (with_reducible apply bind2_intro; (focus (first | with_reducible rfl | (simp only [walkR, get0, getS, Nat.zero_add, Nat.add_zero, Bool.not_true, Bool.not_false, decide_true, decide_false, reduceIte, and_self, Bool.false_eq_true, hb, g1, g2, lx2, g3, haw] <;> with_reducible rfl)))) | with_reducible apply cond_t | with_reducible apply cond_f))
        exact rfl
      | false =>
        rw [hgc] at g3
        have hdn : decide ((100 : Int) < (name.length : Int)) = decide (100 < name.length) := by rw [Bool.eq_iff_iff]; simp; omega
        by_cases hnm : 100 < name.length
        · have dn : decide (100 < name.length) = true := dT hnm
          (repeat (first | (with_reducible apply bindP_intro; (focus (first | with_reducible rfl | (simp only [walkR, get0, getS, Nat.zero_add, Nat.add_zero, Bool.not_true, Bool.not_false, decide_true, decide_false, reduceIte, and_self, Bool.false_eq_true, hb, g1, g2, lx2, g3, hdn, dn, haw] <;> with_reducible rfl)))) | (with_reducible apply bind2_intro; (focus (first | with_reducible rfl | (simp only [walkR, get0, getS, Nat.zero_add, Nat.add_zero, Bool.not_true, Bool.not_false, decide_true, decide_false, reduceIte, and_self, Bool.false_eq_true, hb, g1, g2, lx2, g3, hdn, dn, haw] <;> with_reducible rfl)))) | with_reducible apply cond_t | with_reducible apply cond_f))
          exact rfl
        · have dn : decide (100 < name.length) = false := dF hnm
          unfold greatC at hgc
          simp only [Bool.or_eq_false_iff, decide_eq_false_iff_not] at hgc
          obtain ⟨b, m, H4, n1, n2, n3, n4, n5, n6, n7⟩ := new_c (M := fun _ => False) (n := n + 6) (lim := H.next) (H := H3) k03.next
          have k3n := k03.next
          have hM : ∀ c, (fun c => c = b ∨ c = m) c → c < H4.next := fun c e => by rcases e with rfl | rfl <;> assumption
          have n2 : DiskAt (fun c => c = b ∨ c = m) H4 b m newD := ⟨n2.cells, n2.map.mono rfl fun _ _ _ h => by simp [newD] at h⟩
          obtain ⟨rp, H5, p1, p2, p3, p4⟩ := plays_c (n := n) (lim := H.next) (M := fun c => c = b ∨ c = m) n2 newD_ok (by omega) (.inl rfl) (.inr rfl) (by omega) (by omega) hM hA0 (k03.trans n3) (by omega) (by omega) ok1 len1 (by omega)
          obtain ⟨rs, H6, q1, q2, q3⟩ := start_c (n := n + 5) (lim := H.next) p2 (.inl rfl) (by omega)
          obtain ⟨rf, H7, f1, f2, f3⟩ := fuse_c (n := n + 5) (lim := H.next) q2 (.inl rfl) (by omega) 0
          have hD7 := fuseD_ok (startD_ok p4) (n := 0) (by omega)
          obtain ⟨ry, H8, y1, y2, y3, y4⟩ := sync_c (n := n + 2) (lim := H.next) f2 hD7 (.inl rfl) (.inr rfl) (by omega) (by omega) name
          subst y2
          have fr8 : Fram (dft b m) H4 H8 := ((p3.trans q3 (fun c _ e => e)).trans f3 (fun c _ e => e)).trans y4 (fun c _ e => e)
          generalize hD1 : fuseD (startD (playsD newD l1)) 0 = D1 at *
          have hoff : D1.off = false := by rw [← hD1]; rfl
          have hfu : D1.fuse = 0 := by rw [← hD1]; rfl
          by_cases hs : (syncD D1 name).1 = 0
          · obtain ⟨f, g, w1, w2, w3, w4, w5, w6⟩ := lasts_law hD7 hoff hfu hs ok2 keep torn
            have hq0 : ((syncD D1 name).1 != 0) = false := by rw [hs]; rfl
            have hD8 := syncD_ok hD7 name
            obtain ⟨rr, H9, x1, rfl, x3⟩ := read_c (n := n + 3) (lim := H.next) y3 hD8 (by omega) (by have := fr8.next; omega) name
            obtain ⟨rc, H10, z1, rfl, z3⟩ := records_c (n := n + 5) (lim := H.next) (y3.keep x3) (by have := fr8.next; have := x3.next; omega) name
            have e1 : readD (syncD D1 name).2 name = (bytesF f, 0) := by unfold readD; rw [if_neg (by rw [w2]; simp), w1]
            have e2 : recsD (syncD D1 name).2 name = (f.recs.length, f.syn) := by unfold recsD; rw [w1]; rfl
            rw [e1] at x1
            rw [e2] at z1
            have h10 := (y3.keep x3).keep z3
            have fr10 : Fram (dft b m) H4 H10 := (fr8.trans (.of (S := dft b m) x3) (fun c _ e => e)).trans (.of (S := dft b m) z3) (fun c _ e => e)
            have n10 := fr10.next
            have k10 : Keeps2 H H10 := Fram.keeps (k03.trans n3) fr10 fun c hc e => by rcases e with e | e <;> omega
            have cx10 : H10.cells H.next = some [ks, ts] := fr10.cells ((((k1.trans k2).trans k3).trans n3).cells cx) (fun e => by
              have := Heap.cells_lt (((k1.trans k2).trans k3).cells cx)
              rcases e with e | e <;> omega)
            (repeat (first | (with_reducible apply bindP_intro; (focus (first | with_reducible rfl | (simp only [walkR, get0, getS, Nat.zero_add, Nat.add_zero, Bool.not_true, Bool.not_false, decide_true, decide_false, reduceIte, and_self, Bool.false_eq_true, hb, g1, g2, lx2, g3, hdn, dn, n1, p1, q1, f1, y1, hq0, x1, z1] <;> with_reducible rfl)))) | (with_reducible apply bind2_intro; (focus (first | with_reducible rfl | (simp only [walkR, get0, getS, Nat.zero_add, Nat.add_zero, Bool.not_true, Bool.not_false, decide_true, decide_false, reduceIte, and_self, Bool.false_eq_true, hb, g1, g2, lx2, g3, hdn, dn, n1, p1, q1, f1, y1, hq0, x1, z1] <;> with_reducible rfl)))) | with_reducible apply cond_t | with_reducible apply cond_f))
            have l2l : l2.length * 20001 ≤ 2000100 := by omega
            refine lasts_loop (n := n + 1) (D := (syncD D1 name).2) (M := fun c => c = b ∨ c = m) (Hs := H10) (.inl rfl) (.inr rfl) (by omega) (by omega) hA1 (by omega) (by omega) ok2 len2 (by omega) (fun c e => by have := hM c e; omega) ?_ (n + 7) 0 H10 (syncD D1 name).2 _ h10 hD8 (by simp only [Nat.sub_zero]; omega) k10 (.refl _ _) (by omega) (Nat.zero_le _) (by simp)
            intro D' H11 K' a1 a2 a3 a4 a5
            subst a3
            unfold F8_j0
            have n11 := a2.next
            have k11 : Keeps2 H H11 := Fram.keeps k10 a2 fun c hc e => by rcases e with e | e <;> omega
            have cx11 : H11.cells H.next = some [ks, ts] := a2.cells cx10 (fun e => by
              have := Heap.cells_lt (((k1.trans k2).trans k3).cells cx)
              rcases e with e | e <;> omega)
            obtain ⟨rk, H12, c1, c2, c3⟩ := crash_c (n := n + 4) (lim := H.next) a1 a4 (by omega) (.inl rfl) (.inr rfl) (by omega) (by omega) (by omega) s1 s2 (by omega) (by omega) k11 o1 o2 hi1 hi2 (by omega) (by omega)
            obtain ⟨ru, H13, u1, u2, u3⟩ := start_c (n := n + 5) (lim := H.next) c2 (.inl rfl) (by omega)
            have hDc := startD_ok (crashD_ok a4 keep torn)
            have n13 : H11.next ≤ H13.next := Nat.le_trans c3.next u3.next
            obtain ⟨rw', H14, v1, rfl, v3⟩ := read_c (n := n + 3) (lim := H.next) u2 hDc (by omega) (by omega) name
            obtain ⟨rz, H15, i1, rfl, i3⟩ := records_c (n := n + 5) (lim := H.next) (u2.keep v3) (by have := v3.next; omega) name
            have e3 : readD (startD (crashD (playsD (syncD D1 name).2 (l2.filter mild)) keep torn)) name = (bytesF g, 0) := readD_some rfl w3
            have e4 : recsD (startD (crashD (playsD (syncD D1 name).2 (l2.filter mild)) keep torn)) name = (g.recs.length, g.syn) := recsD_some w3
            rw [e3] at v1
            rw [e4] at i1
            obtain ⟨tl, htl⟩ := w4
            have hge : decide (((bytesF f).length : Int) ≤ ((bytesF g).length : Int)) = true := dT (by rw [← htl, List.length_append]; omega)
            have hsl : asliceStr (.str (bytesF g)) none (some (.int .i64 ((bytesF f).length : Int))) = some (.str (bytesF f)) := by
              rw [asliceStr_take (by rw [← htl, List.length_append]; omega), ← htl, List.take_left]
            have hself : (bytesF f == bytesF f) = true := by simp
            have hge2 : decide ((f.recs.length : Int) ≤ (g.recs.length : Int)) = true := dT (by omega)
            have hsy : (((g.syn : Nat) : Int) == ((g.recs.length : Nat) : Int)) = true := by rw [w6]; simp
            have h00 : ((0 : Int) == 0) = true := rfl
            (repeat (first | (with_reducible apply bindP_intro; (focus (first | with_reducible rfl | (simp only [walkR, get0, getS, Nat.zero_add, Nat.add_zero, Bool.not_true, Bool.not_false, decide_true, decide_false, reduceIte, and_self, Bool.false_eq_true, aload_all (n := 2) cx11 rfl, c1, u1, v1, i1, h00, hge, hsl, hself, hge2, hsy, haw] <;> with_reducible rfl)))) | (with_reducible apply bind2_intro; (focus (first | with_reducible rfl | (simp only [walkR, get0, getS, Nat.zero_add, Nat.add_zero, Bool.not_true, Bool.not_false, decide_true, decide_false, reduceIte, and_self, Bool.false_eq_true, aload_all (n := 2) cx11 rfl, c1, u1, v1, i1, h00, hge, hsl, hself, hge2, hsy, haw] <;> with_reducible rfl)))) | with_reducible apply cond_t | with_reducible apply cond_f))
            exact rfl
          · have hq : ((syncD D1 name).1 != 0) = true := by simpa using hs
            (repeat (first | (with_reducible apply bindP_intro; (focus (first | with_reducible rfl | (simp only [walkR, get0, getS, Nat.zero_add, Nat.add_zero, Bool.not_true, Bool.not_false, decide_true, decide_false, reduceIte, and_self, Bool.false_eq_true, hb, g1, g2, lx2, g3, hdn, dn, n1, p1, q1, f1, y1, hq, haw] <;> with_reducible rfl)))) | (with_reducible apply bind2_intro; (focus (first | with_reducible rfl | (simp only [walkR, get0, getS, Nat.zero_add, Nat.add_zero, Bool.not_true, Bool.not_false, decide_true, decide_false, reduceIte, and_self, Bool.false_eq_true, hb, g1, g2, lx2, g3, hdn, dn, n1, p1, q1, f1, y1, hq, haw] <;> with_reducible rfl)))) | with_reducible apply cond_t | with_reducible apply cond_f))
            exact rfl

theorem lasts_walk (H : Heap) (vs : List AVal) (h : WfArgs H [(false, .slice actTy .nil), (false, .slice actTy .nil), (false, .str .nil), (true, crashTy)] vs) : ∃ n, isTrue (run ap n H.next 8 vs H) = true := by
  obtain ⟨a0, _, rfl, h0, a1, _, rfl, h1, a2, _, rfl, h2, a3, _, rfl, h3, rfl⟩ := h
  simp only [Bool.false_eq_true, if_false, if_true] at h0 h1 h2 h3
  obtain ⟨l0, A0⟩ := wf_acts h0
  obtain ⟨l1, A1⟩ := wf_acts h1
  obtain ⟨name, _, e2, _, _⟩ := h2
  simp only [List.cons.injEq] at e2
  obtain ⟨rfl, _⟩ := e2
  obtain ⟨cs, rfl, hc⟩ := h3
  obtain ⟨ks, ts, keep, torn, rfl, s1, s2, o1, o2, k1, k2⟩ := wf_crash hc
  exact ⟨_, isTrue_run (lasts (n := 50000000) A0 A1 s1 s2 o1 o2 k1 k2 (Nat.le_refl _))⟩

end
end Go.Proofs.Ytjflpnahjooffaa.disk
