/- What the functions of the disk come to: contracts. Fourth part: what a crash leaves. -/
import Derived.Test.YtjflpnahjooffaaDxOps3
set_option maxRecDepth 100000
set_option linter.unusedVariables false
set_option linter.unusedSimpArgs false
namespace Go.Proofs.Ytjflpnahjooffaa.disk
open Go.Ahs

def encI (l : List Int) : List (List AVal) := l.map fun x => [.int .i64 x]
theorem encI_len (l : List Int) : (encI l).length = l.length := by unfold encI; simp
theorem encI_get {l : List Int} {i : Nat} {x : Int} (h : l[i]? = some x) : (encI l)[i]? = some [.int .i64 x] := by unfold encI; rw [List.getElem?_map, h]; rfl
theorem encR_get {l : List Str} {i : Nat} {x : Str} (h : l[i]? = some x) : (encR l)[i]? = some [.str x] := by unfold encR; rw [List.getElem?_map, h]; rfl
def inI64 (x : Int) : Prop := -9223372036854775808 ≤ x ∧ x < 9223372036854775808

abbrev filV (s : AVal) (syn : Int) (c : Bool) (t : Str) : List AVal := [s, .int .i64 syn, .bool c, .str t]
theorem filV_one {s : AVal} (h : s.one = true) (syn : Int) (c : Bool) (t : Str) : ((filV s syn c t).all fun v => v.one) = true := by
  simp only [List.all_cons, List.all_nil, h, Bool.and_true]; rfl

section
variable {M : Nat → Prop} {H : Heap} {b m : Nat} {D : Dsk}

theorem sl_at {s : AVal} {G : Heap} {xs : List (List AVal)} (h : Sl G 1 s xs) {i : Nat} {x : AVal} (hx : xs[i]? = some [x]) : ∃ p, aindexAddr none 1 s (.int .i64 (i : Int)) = some p ∧ aload G none p = some x := by
  have hi : i < xs.length := (List.getElem?_eq_some_iff.1 hx).1
  exact ⟨_, h.addr hi, h.load1 hx⟩

theorem fc_j0 {n lim : Nat} {K : AVal → Heap → Prop} {G : Heap} {x1 x6 left : Nat} {s : AVal} {a : Int} {c : Bool} {t : Str} {rs : List Str} {Z : List AVal} (h1 : G.cells x1 = some (filV s a c t)) (h6 : G.cells x6 = some Z) (hZ : Z.length = 4)
    (hne : x1 ≠ x6) (l1 : lim ≤ x1) (l6 : lim ≤ x6) (hs : Fz G 1 s (encR rs)) (hl : left ≤ rs.length) (hsb : ∀ q, slBlk s = some q → q ≠ x1 ∧ q ≠ x6)
    (hK : ∀ s2 G', Fz G' 1 s2 (encR (rs.take left)) → slBlk s2 = slBlk s → Fram (fun q => q = x1 ∨ q = x6) G G' → K (.agg (filV s2 left c t)) G') :
    F84_j0 (Ahs.runT ap (n + 1)) lim (n + 1) K (ptr x1) (ptr x6) (.int .i64 (left : Int)) G := by
  unfold F84_j0
  obtain ⟨s1, a1, a2, a3⟩ := hs.take (k := left) (by rw [encR_len]; exact hl)
  obtain ⟨s2, b1, b2, b3, b4⟩ := clip_c (n := n) (lim := lim) a2
  have ho := b2.one
  have lt1 := Heap.cells_lt h1
  have lt6 := Heap.cells_lt h6
  have t1 : astore lim G 1 (.ptr (some (x1, 0))) s2 = some (G.set x1 (.cells (filV s2 a c t))) := astore_cell h1 l1 ho.2 ho.1 (by show 0 < 4; omega) rfl
  have c1 : (G.set x1 (.cells (filV s2 a c t))).cells x1 = some (filV s2 a c t) := cells_set_same lt1
  have t2 : astore lim (G.set x1 (.cells (filV s2 a c t))) 1 (.ptr (some (x1, 1))) (.int .i64 (left : Int)) = some (G.set x1 (.cells (filV s2 left c t))) := by
    rw [astore_cell (cs' := filV s2 left c t) c1 l1 rfl rfl (by show 1 < 4; omega) rfl]
    simp only [Heap.set, Tr.set_set]
  have c2 : (G.set x1 (.cells (filV s2 left c t))).cells x1 = some (filV s2 left c t) := cells_set_same lt1
  have c6 : (G.set x1 (.cells (filV s2 left c t))).cells x6 = some Z := cells_set_other h6 (Ne.symm hne)
  have t3 : astore lim (G.set x1 (.cells (filV s2 left c t))) 4 (.ptr (some (x6, 0))) (.agg (filV s2 left c t)) = some ((G.set x1 (.cells (filV s2 left c t))).set x6 (.cells (filV s2 left c t))) := by
    rw [astore_at (x := .agg (filV s2 left c t)) (n := 4) (o := 0) c6 l6 rfl (by rw [hZ]; exact Nat.le_refl _) (filV_one ho.1 _ _ _)]
    show some ((G.set x1 (.cells (filV s2 left c t))).set x6 (.cells (put Z 0 (filV s2 left c t)))) = _
    rw [put_all (by rw [hZ]; rfl)]
  have c7 : ((G.set x1 (.cells (filV s2 left c t))).set x6 (.cells (filV s2 left c t))).cells x6 = some (filV s2 left c t) := cells_set_same (by rw [Heap.next_set]; exact lt6)
  have fr : Fram (fun q => q = x1 ∨ q = x6) G ((G.set x1 (.cells (filV s2 left c t))).set x6 (.cells (filV s2 left c t))) := (Fram.set (S := fun q => q = x1 ∨ q = x6) (.inl rfl)).set' (.inl (.inr rfl))
  (repeat (first | (with_reducible apply bindP_intro; (focus (first | with_reducible rfl | (simp only [walkR, get0, getS, Nat.zero_add, Nat.add_zero, Bool.not_true, Bool.not_false, decide_true, decide_false, reduceIte, and_self, Bool.false_eq_true, aload_one h1, a1, b1, t1, t2, aload_all (n := 4) c2 rfl, t3, aload_all (n := 4) c7 rfl] <;> with_reducible rfl)))) | (with_reducible apply bind2_intro; (focus (first | with_reducible rfl | (simp only [walkR, get0, getS, Nat.zero_add, Nat.add_zero, Bool.not_true, Bool.not_false, decide_true, decide_false, reduceIte, and_self, Bool.false_eq_true, aload_one h1, a1, b1, t1, t2, aload_all (n := 4) c2 rfl, t3, aload_all (n := 4) c7 rfl] <;> with_reducible rfl)))) | with_reducible apply cond_t | with_reducible apply cond_f))
  refine hK s2 _ ?_ (by rw [b4, a3]) fr
  rw [encR_take]
  exact b2.frame fr (fun q hq e => by
    rw [b4, a3] at hq
    have := hsb q hq
    rcases e with e | e
    · exact this.1 e
    · exact this.2 e)

theorem asliceStr_take {r : Str} {k : Nat} (hk : k ≤ r.length) : asliceStr (.str r) none (some (.int .i64 (k : Int))) = some (.str (r.take k)) := by
  simp only [asliceStr, natOr, natOf_nat, Option.bind_eq_bind, Option.bind_some]
  rw [if_pos ⟨hk, Nat.zero_le _⟩]
  simp

theorem tmod_fix (t : Int) {L : Int} (hL : 0 < L) : (t.tmod L < 0 → t.tmod L + L = t % L) ∧ (¬ t.tmod L < 0 → t.tmod L = t % L) := by
  have h := Int.tmod_eq_emod (a := t) (b := L)
  have h1 := Int.emod_nonneg t (show L ≠ 0 by omega)
  have h2 := Int.emod_lt_of_pos t hL
  split at h
  · constructor <;> intro _ <;> omega
  · rename_i hn
    constructor <;> intro g
    · omega
    · exfalso
      apply hn
      have h3 : ((L.natAbs : Nat) : Int) = L := by omega
      omega

theorem fcrash_c {n lim : Nat} {s ks ts : AVal} {f : Fil} {keep torn : List Int} {k : Nat} (hlim : lim ≤ H.next) (hs : Fz H 1 s (encR f.recs)) (hf : FilOK 1000000000000 f) (hsy : f.syn < f.recs.length) (hks : Sl H 1 ks (encI keep)) (hts : Sl H 1 ts (encI torn))
    (ho1 : ks.one = true) (ho2 : ts.one = true) (hi1 : ∀ x ∈ keep, inI64 x) (hi2 : ∀ x ∈ torn, inI64 x) (hkn : keep.length ≤ 1000000) (htn : torn.length ≤ 1000000) :
    ∃ r H', Ahs.runT ap (n + 2) lim (.fn 84) [.agg (filV s f.syn f.cut f.torn), .agg [ks, ts], .int .i64 (k : Int)] H = some (r, H') ∧ Keeps2 H H' ∧
      ∃ s2, r = .agg (filV s2 (leftF f keep torn k).syn (leftF f keep torn k).cut (leftF f keep torn k).torn) ∧ Fz H' 1 s2 (encR (leftF f keep torn k).recs) ∧ slBlk s2 = slBlk s := by
  have hcut : f.cut = false := by
    cases hc : f.cut with
    | false => rfl
    | true => have := hf.cutS hc; omega
  rw [hcut]
  refine F84_run a84 ?_
  unfold F84
  have hmany := hf.many
  have hsyn := hf.syn
  have hbo : (filV s f.syn false f.torn).all (fun v => v.one) = true := filV_one hs.one.1 _ _ _
  have hb2 : (([ks, ts] : List AVal).all fun v => v.one) = true := by simp only [List.all_cons, List.all_nil, ho1, ho2, Bool.and_true]
  have n1 : (H.push (.cells (filV s f.syn false f.torn))).next = H.next + 1 := Heap.next_push _ _
  have n2 : ((H.push (.cells (filV s f.syn false f.torn))).push (.cells [ks, ts])).next = H.next + 2 := by rw [Heap.next_push, n1]
  have n3 : (((H.push (.cells (filV s f.syn false f.torn))).push (.cells [ks, ts])).push (.cells ze3a7c2)).next = H.next + 3 := by rw [Heap.next_push, n2]
  have k3 : Keeps2 H (((H.push (.cells (filV s f.syn false f.torn))).push (.cells [ks, ts])).push (.cells ze3a7c2)) := ((Keeps2.push _ _).trans (.push _ _)).trans (.push _ _)
  have x1 : (((H.push (.cells (filV s f.syn false f.torn))).push (.cells [ks, ts])).push (.cells ze3a7c2)).cells H.next = some (filV s f.syn false f.torn) := cells_push_old (cells_push_old (cells_push_new H _))
  have x3 : (((H.push (.cells (filV s f.syn false f.torn))).push (.cells [ks, ts])).push (.cells ze3a7c2)).cells (H.push (.cells (filV s f.syn false f.torn))).next = some [ks, ts] := cells_push_old (cells_push_new _ _)
  have x6 : (((H.push (.cells (filV s f.syn false f.torn))).push (.cells [ks, ts])).push (.cells ze3a7c2)).cells ((H.push (.cells (filV s f.syn false f.torn))).push (.cells [ks, ts])).next = some ze3a7c2 := cells_push_new _ _
  generalize hG : (((H.push (.cells (filV s f.syn false f.torn))).push (.cells [ks, ts])).push (.cells ze3a7c2)) = G at *
  have hslt : ∀ q, slBlk s = some q → q < H.next := hs.lt
  have hkl := hks.len
  have htl := hts.len
  rw [encI_len] at hkl htl
  have hsl : alen false s = some (.int .i64 (f.recs.length : Int)) := by rw [hs.sl.len, encR_len]
  have hsG := hs.keep k3
  have hksG := hks.keep k3
  have htsG := hts.keep k3
  -- the tail
  have tail : ∀ kp : Nat, f.syn + kp = keptF f keep k → F84_j2 (Ahs.runT ap (n + 1)) lim (n + 1) (fun r H' => Keeps2 H H' ∧
      ∃ s2, r = .agg (filV s2 (leftF f keep torn k).syn (leftF f keep torn k).cut (leftF f keep torn k).torn) ∧ Fz H' 1 s2 (encR (leftF f keep torn k).recs) ∧ slBlk s2 = slBlk s) (.int .i64 (k : Int)) (ptr H.next) (ptr (H.push (.cells (filV s f.syn false f.torn))).next) (ptr ((H.push (.cells (filV s f.syn false f.torn))).push (.cells [ks, ts])).next) (.int .i64 (kp : Int)) G := by
    intro kp hkp
    have hle := keptF_le hf.syn keep k
    unfold F84_j2
    have hw : IntKind.i64.wrap ((f.syn : Int) + (kp : Int)) = ((keptF f keep k : Nat) : Int) := by rw [wrap_i64 (by omega) (by omega)]; omega
    generalize hL : keptF f keep k = L at *
    have st : astore lim G 1 (.ptr (some (H.next, 2))) (.bool (decide (L < f.recs.length))) = some (G.set H.next (.cells (filV s f.syn (decide (L < f.recs.length)) f.torn))) := astore_cell x1 (by omega) rfl rfl (by show 2 < 4; omega) rfl
    have kG : Keeps2 H (G.set H.next (.cells (filV s f.syn (decide (L < f.recs.length)) f.torn))) := k3.setNew (Nat.le_refl _) _
    have y1 : (G.set H.next (.cells (filV s f.syn (decide (L < f.recs.length)) f.torn))).cells H.next = some (filV s f.syn (decide (L < f.recs.length)) f.torn) := cells_set_same (by omega)
    have y3 : (G.set H.next (.cells (filV s f.syn (decide (L < f.recs.length)) f.torn))).cells (H.push (.cells (filV s f.syn false f.torn))).next = some [ks, ts] := cells_set_other x3 (by omega)
    have y6 : (G.set H.next (.cells (filV s f.syn (decide (L < f.recs.length)) f.torn))).cells ((H.push (.cells (filV s f.syn false f.torn))).push (.cells [ks, ts])).next = some ze3a7c2 := cells_set_other x6 (by omega)
    have hnG : (G.set H.next (.cells (filV s f.syn (decide (L < f.recs.length)) f.torn))).next = H.next + 3 := by rw [Heap.next_set, n3]
    generalize hG2 : G.set H.next (.cells (filV s f.syn (decide (L < f.recs.length)) f.torn)) = G2 at *
    have hsG2 := hs.keep kG
    have hksG2 := hks.keep kG
    have htsG2 := hts.keep kG
    -- the end
    have fin : ∀ (G3 : Heap) (tn : Str), Keeps2 H G3 → G3.next = H.next + 3 → G3.cells H.next = some (filV s f.syn (decide (L < f.recs.length)) tn) → G3.cells ((H.push (.cells (filV s f.syn false f.torn))).push (.cells [ks, ts])).next = some ze3a7c2 → tn = tornF f keep torn k →
        F84_j0 (Ahs.runT ap (n + 1)) lim (n + 1) (fun r H' => Keeps2 H H' ∧
          ∃ s2, r = .agg (filV s2 (leftF f keep torn k).syn (leftF f keep torn k).cut (leftF f keep torn k).torn) ∧ Fz H' 1 s2 (encR (leftF f keep torn k).recs) ∧ slBlk s2 = slBlk s) (ptr H.next) (ptr ((H.push (.cells (filV s f.syn false f.torn))).push (.cells [ks, ts])).next) (.int .i64 (L : Int)) G3 := by
      intro G3 tn q1 q2 q3 q4 q5
      refine fc_j0 q3 q4 rfl (by omega) (by omega) (by omega) (hs.keep q1) hle (fun q hq => by have := hslt q hq; omega) ?_
      intro s2 G' e1 e2 e3
      refine ⟨Fram.keeps q1 e3 (fun c hc e => by rcases e with e | e <;> omega), s2, ?_, ?_, e2⟩
      · simp only [leftF, hL, q5, hcut, Bool.false_or]
      · simp only [leftF, hL]; exact e1
    by_cases hLt : L < f.recs.length
    · have hd : decide ((L : Int) < (f.recs.length : Int)) = true := dT (by omega)
      have hd' : decide (L < f.recs.length) = true := dT hLt
      rw [hd'] at st y1 fin
      by_cases hkt : k < torn.length
      · have hdk : decide ((k : Int) < (torn.length : Int)) = true := dT (by omega)
        obtain ⟨p1, p2, p3⟩ := sl_at hsG2.sl (encR_get (List.getElem?_eq_getElem hLt))
        obtain ⟨p4, p5, p6⟩ := sl_at htsG2 (encI_get (List.getElem?_eq_getElem hkt))
        have hne : f.recs[L] ≠ [] := hf.ne _ (List.getElem_mem hLt)
        have hpos : 0 < f.recs[L].length := List.length_pos_iff.2 hne
        have hbl : f.recs[L].length ≤ 1000000000000 := by
          have hb := hf.bytes
          unfold bytesF at hb
          have : f.recs[L].length ≤ f.recs.flatten.length := by
            conv => rhs; rw [← List.take_append_drop L f.recs, List.drop_eq_getElem_cons hLt, List.flatten_append, List.flatten_cons, List.length_append, List.length_append]
            omega
          rw [List.length_append] at hb
          omega
        generalize hr : f.recs[L] = r at *
        generalize htt : torn[k] = t at *
        have hti : inI64 t := hi2 t (by rw [← htt]; exact List.getElem_mem hkt)
        have htf : tornF f keep torn k = r.take (t % (r.length : Int)).toNat := by
          unfold tornF
          rw [hL, List.getElem?_eq_getElem hLt, List.getElem?_eq_getElem hkt]
          simp only [hr, htt]
        have hrem := abin_rem (k := .i64) (a := t) (b := (r.length : Int)) (show ((r.length : Nat) : Int) ≠ 0 by omega)
        have fx := tmod_fix t (show (0 : Int) < (r.length : Int) by omega)
        have e1 := Int.emod_nonneg t (show ((r.length : Nat) : Int) ≠ 0 by omega)
        have e2 := Int.emod_lt_of_pos t (show (0 : Int) < (r.length : Int) by omega)
        have en : ((t % (r.length : Int)).toNat : Int) = t % (r.length : Int) := Int.toNat_of_nonneg e1
        -- the join
        have j1 : F84_j1 (Ahs.runT ap (n + 1)) lim (n + 1) (fun r H' => Keeps2 H H' ∧
            ∃ s2, r = .agg (filV s2 (leftF f keep torn k).syn (leftF f keep torn k).cut (leftF f keep torn k).torn) ∧ Fz H' 1 s2 (encR (leftF f keep torn k).recs) ∧ slBlk s2 = slBlk s) (ptr H.next) (ptr ((H.push (.cells (filV s f.syn false f.torn))).push (.cells [ks, ts])).next) (.int .i64 (L : Int)) (.str r) (.int .i64 (((t % (r.length : Int)).toNat : Nat) : Int)) G2 := by
          unfold F84_j1
          have sx := asliceStr_take (r := r) (k := (t % (r.length : Int)).toNat) (by omega)
          have sy : astore lim G2 1 (.ptr (some (H.next, 3))) (.str (r.take (t % (r.length : Int)).toNat)) = some (G2.set H.next (.cells (filV s f.syn true (r.take (t % (r.length : Int)).toNat)))) := astore_cell y1 (by omega) rfl rfl (by show 3 < 4; omega) rfl
          (repeat (first | (with_reducible apply bindP_intro; (focus (first | with_reducible rfl | (simp only [walkR, get0, getS, Nat.zero_add, Nat.add_zero, Bool.not_true, Bool.not_false, decide_true, decide_false, reduceIte, and_self, Bool.false_eq_true, sx, sy] <;> with_reducible rfl)))) | (with_reducible apply bind2_intro; (focus (first | with_reducible rfl | (simp only [walkR, get0, getS, Nat.zero_add, Nat.add_zero, Bool.not_true, Bool.not_false, decide_true, decide_false, reduceIte, and_self, Bool.false_eq_true, sx, sy] <;> with_reducible rfl)))) | with_reducible apply cond_t | with_reducible apply cond_f))
          exact fin _ _ (kG.setNew (Nat.le_refl _) _) (by rw [Heap.next_set]; exact hnG) (cells_set_same (by omega)) (cells_set_other y6 (by omega)) htf.symm
        by_cases hneg : t.tmod (r.length : Int) < 0
        · have hdn : decide (t.tmod (r.length : Int) < 0) = true := dT hneg
          have hww : IntKind.i64.wrap (t.tmod (r.length : Int) + (r.length : Int)) = (((t % (r.length : Int)).toNat : Nat) : Int) := by
            rw [fx.1 hneg, wrap_i64 (by omega) (by omega), en]
          (repeat (first | (with_reducible apply bindP_intro; (focus (first | with_reducible rfl | (simp only [walkR, get0, getS, Nat.zero_add, Nat.add_zero, Bool.not_true, Bool.not_false, decide_true, decide_false, reduceIte, and_self, Bool.false_eq_true, aload_one x1, hw, hsl, hd, st, aload_one y1, aload_one y3, htl, hdk, p2, p3, p5, p6, hrem, hdn, hww] <;> with_reducible rfl)))) | (with_reducible apply bind2_intro; (focus (first | with_reducible rfl | (simp only [walkR, get0, getS, Nat.zero_add, Nat.add_zero, Bool.not_true, Bool.not_false, decide_true, decide_false, reduceIte, and_self, Bool.false_eq_true, aload_one x1, hw, hsl, hd, st, aload_one y1, aload_one y3, htl, hdk, p2, p3, p5, p6, hrem, hdn, hww] <;> with_reducible rfl)))) | with_reducible apply cond_t | with_reducible apply cond_f))
          exact j1
        · have hdn : decide (t.tmod (r.length : Int) < 0) = false := dF hneg
          have hww : t.tmod (r.length : Int) = (((t % (r.length : Int)).toNat : Nat) : Int) := by rw [fx.2 hneg, en]
          have hdn' : decide ((((t % (r.length : Int)).toNat : Nat) : Int) < 0) = false := dF (by omega)
          (repeat (first | (with_reducible apply bindP_intro; (focus (first | with_reducible rfl | (simp only [walkR, get0, getS, Nat.zero_add, Nat.add_zero, Bool.not_true, Bool.not_false, decide_true, decide_false, reduceIte, and_self, Bool.false_eq_true, aload_one x1, hw, hsl, hd, st, aload_one y1, aload_one y3, htl, hdk, p2, p3, p5, p6, hrem, hww, hdn'] <;> with_reducible rfl)))) | (with_reducible apply bind2_intro; (focus (first | with_reducible rfl | (simp only [walkR, get0, getS, Nat.zero_add, Nat.add_zero, Bool.not_true, Bool.not_false, decide_true, decide_false, reduceIte, and_self, Bool.false_eq_true, aload_one x1, hw, hsl, hd, st, aload_one y1, aload_one y3, htl, hdk, p2, p3, p5, p6, hrem, hww, hdn'] <;> with_reducible rfl)))) | with_reducible apply cond_t | with_reducible apply cond_f))
          exact j1
      · have hdk : decide ((k : Int) < (torn.length : Int)) = false := dF (by omega)
        (repeat (first | (with_reducible apply bindP_intro; (focus (first | with_reducible rfl | (simp only [walkR, get0, getS, Nat.zero_add, Nat.add_zero, Bool.not_true, Bool.not_false, decide_true, decide_false, reduceIte, and_self, Bool.false_eq_true, aload_one x1, hw, hsl, hd, st, aload_one y1, aload_one y3, htl, hdk] <;> with_reducible rfl)))) | (with_reducible apply bind2_intro; (focus (first | with_reducible rfl | (simp only [walkR, get0, getS, Nat.zero_add, Nat.add_zero, Bool.not_true, Bool.not_false, decide_true, decide_false, reduceIte, and_self, Bool.false_eq_true, aload_one x1, hw, hsl, hd, st, aload_one y1, aload_one y3, htl, hdk] <;> with_reducible rfl)))) | with_reducible apply cond_t | with_reducible apply cond_f))
        refine fin _ _ kG hnG y1 y6 ?_
        unfold tornF
        rw [List.getElem?_eq_none (l := torn) (by omega)]
        split
        · rename_i heq; simp at heq
        · rfl
    · have hd : decide ((L : Int) < (f.recs.length : Int)) = false := dF (by omega)
      have hd' : decide (L < f.recs.length) = false := dF hLt
      rw [hd'] at st y1 fin
      (repeat (first | (with_reducible apply bindP_intro; (focus (first | with_reducible rfl | (simp only [walkR, get0, getS, Nat.zero_add, Nat.add_zero, Bool.not_true, Bool.not_false, decide_true, decide_false, reduceIte, and_self, Bool.false_eq_true, aload_one x1, hw, hsl, hd, st, aload_one y1] <;> with_reducible rfl)))) | (with_reducible apply bind2_intro; (focus (first | with_reducible rfl | (simp only [walkR, get0, getS, Nat.zero_add, Nat.add_zero, Bool.not_true, Bool.not_false, decide_true, decide_false, reduceIte, and_self, Bool.false_eq_true, aload_one x1, hw, hsl, hd, st, aload_one y1] <;> with_reducible rfl)))) | with_reducible apply cond_t | with_reducible apply cond_f))
      refine fin _ _ kG hnG y1 y6 ?_
      unfold tornF
      rw [hL, List.getElem?_eq_none (l := f.recs) (by omega)]
  have kl : decide ((k : Int) < (keep.length : Int)) = decide (k < keep.length) := by rw [Bool.eq_iff_iff]; simp
  by_cases hk : k < keep.length
  · have hdk : decide ((k : Int) < (keep.length : Int)) = true := dT (by omega)
    obtain ⟨p1, p2, p3⟩ := sl_at hksG (encI_get (List.getElem?_eq_getElem hk))
    have hx : inI64 keep[k] := hi1 _ (List.getElem_mem hk)
    have hkp : keepN f keep k = min keep[k].toNat (f.recs.length - f.syn) := by unfold keepN; rw [List.getElem?_eq_getElem hk]
    have hmin := Nat.min_le_right keep[k].toNat (f.recs.length - f.syn)
    have hsub : IntKind.i64.wrap ((f.recs.length : Int) - (f.syn : Int)) = (f.recs.length : Int) - (f.syn : Int) := wrap_i64 (by omega) (by omega)
    have hmm : min (max keep[k] 0) ((f.recs.length : Int) - (f.syn : Int)) = ((keepN f keep k : Nat) : Int) := by rw [hkp]; omega
    (repeat (first | (with_reducible apply bindP_intro; (focus (first | with_reducible rfl | (simp only [walkR, get0, getS, Nat.zero_add, Nat.add_zero, Bool.not_true, Bool.not_false, decide_true, decide_false, reduceIte, and_self, Bool.false_eq_true, hbo, hb2, hG, aload_one x3, hkl, hdk, p2, p3, max_int, aload_one x1, hsl, hsub, min_int, hmm] <;> with_reducible rfl)))) | (with_reducible apply bind2_intro; (focus (first | with_reducible rfl | (simp only [walkR, get0, getS, Nat.zero_add, Nat.add_zero, Bool.not_true, Bool.not_false, decide_true, decide_false, reduceIte, and_self, Bool.false_eq_true, hbo, hb2, hG, aload_one x3, hkl, hdk, p2, p3, max_int, aload_one x1, hsl, hsub, min_int, hmm] <;> with_reducible rfl)))) | with_reducible apply cond_t | with_reducible apply cond_f))
    rw [hG]
    exact tail _ rfl
  · have hdk : decide ((k : Int) < (keep.length : Int)) = false := dF (by omega)
    have hkp : keepN f keep k = 0 := by unfold keepN; rw [List.getElem?_eq_none (by omega)]
    (repeat (first | (with_reducible apply bindP_intro; (focus (first | with_reducible rfl | (simp only [walkR, get0, getS, Nat.zero_add, Nat.add_zero, Bool.not_true, Bool.not_false, decide_true, decide_false, reduceIte, and_self, Bool.false_eq_true, hbo, hb2, hG, aload_one x3, hkl, hdk] <;> with_reducible rfl)))) | (with_reducible apply bind2_intro; (focus (first | with_reducible rfl | (simp only [walkR, get0, getS, Nat.zero_add, Nat.add_zero, Bool.not_true, Bool.not_false, decide_true, decide_false, reduceIte, and_self, Bool.false_eq_true, hbo, hb2, hG, aload_one x3, hkl, hdk] <;> with_reducible rfl)))) | with_reducible apply cond_t | with_reducible apply cond_f))
    rw [hG]
    exact tail 0 (by unfold keptF; rw [hkp])

/-- A file is laid under a name, however the files are then told. -/
theorem DiskAt.put2 {lim : Nat} (h : DiskAt M H b m D) (hMm : M m) (hlm : lim ≤ m) (n : Str) {v : AVal} {f : Fil} (hv : FilAt M H v f) {fs' : Fs} (hp : PutF D.fs n f fs') :
    ∃ H', amapUpdate lim H false [.str] (.map (some m)) (.str n) v = some H' ∧ DiskAt M H' b m { D with fs := fs' } ∧ Fram (dft b m) H H' := by
  obtain ⟨x, h1, h2⟩ := h.map.update hlm n hv
  have hfr : Fram (fun c => c = m) H (H.set m x) := .set rfl
  refine ⟨_, h1, ⟨?_, ?_⟩, hfr.weaken fun c _ e => .inr e⟩
  · exact cells_set_other h.cells h.ne
  · exact (h2 _ hp).mono rfl fun k v a _ hR => hR.frame hfr fun c e => by rw [e]; exact hMm

theorem mid_put {P xs : Fs} {x : Str × Fil} {g : Fil} (hn : ((P ++ x :: xs).map (·.1)).Nodup) : PutF (P ++ x :: xs) x.1 g (P ++ (x.1, g) :: xs) := by
  have hk : (P ++ (x.1, g) :: xs).map (·.1) = (P ++ x :: xs).map (·.1) := by simp
  refine ⟨by rw [hk]; exact hn, fun k a => ?_⟩
  have hP : ∀ a, (x.1, a) ∉ P := by
    intro a ha
    rw [List.map_append, List.nodup_append] at hn
    exact hn.2.2 _ (mem_keys.2 ⟨a, ha⟩) x.1 (by simp) rfl
  have hX : ∀ a, (x.1, a) ∉ xs := by
    intro a ha
    rw [List.map_append, List.nodup_append] at hn
    have := hn.2.1
    rw [List.map_cons, List.nodup_cons] at this
    exact this.1 (mem_keys.2 ⟨a, ha⟩)
  simp only [List.mem_append, List.mem_cons]
  constructor
  · rintro (h | h | h)
    · exact .inr ⟨fun e => hP a (by rw [← e]; exact h), .inl h⟩
    · simp at h; exact .inl h
    · exact .inr ⟨fun e => hX a (by rw [← e]; exact h), .inr (.inr h)⟩
  · rintro (⟨rfl, rfl⟩ | ⟨hne, h | h | h⟩)
    · exact .inr (.inl rfl)
    · exact .inl h
    · exfalso; apply hne; rw [← h]
    · exact .inr (.inr h)

theorem mid_lk {P xs : Fs} {x : Str × Fil} (hn : ((P ++ x :: xs).map (·.1)).Nodup) : lk (P ++ x :: xs) x.1 = some x.2 := lk_of_mem hn (by simp)

theorem crash_loop {n lim fuse N : Nat} {keep torn : List Int} {ks ts l : AVal} {x3 : Nat} {ns : List Str} {K : AVal → Heap → Prop} (hn : ns.Nodup) (hMb : M b) (hMm : M m) (hlm : lim ≤ m)
    (ho1 : ks.one = true) (ho2 : ts.one = true) (hi1 : ∀ x ∈ keep, inI64 x) (hi2 : ∀ x ∈ torn, inI64 x) (hkn : keep.length ≤ 1000000) (htn : torn.length ≤ 1000000) {H0 : Heap} (hks : Sl H0 1 ks (encI keep)) (hts : Sl H0 1 ts (encI torn)) (hb0 : H0.next ≤ b) (hm0 : H0.next ≤ m) (hb3 : ∀ c, slBlk l = some c → ¬ dft b m c) (hx3 : ¬ dft b m x3)
    (hN : ns.length < 1000000000000) :
    ∀ (rest P : Fs) (k j : Nat) (H : Heap), (P ++ rest).map (·.1) = ns → rest.length < j → k ≤ P.length → DiskAt M H b m ⟨P ++ rest, true, fuse⟩ → lim ≤ H.next → (∀ y f, (y, f) ∈ rest → FilOK 1000000000000 f) → H.cells x3 = some [ks, ts] → Keeps2 H0 H → Sl H 1 l (encR ns) →
      (∀ H', DiskAt M H' b m ⟨P ++ crashFs keep torn k rest, true, fuse⟩ → Fram (dft b m) H H' → K (.tup []) H') →
      F47_l0 (Ahs.runT ap (n + 2)) lim N K j (ptr b) (ptr x3) (.int .i64 (k : Int)) l (.int .i64 (ns.length : Int)) (.int .i64 (P.length : Int)) H
  | _, _, _, 0, _, _, hj, _, _, _, _, _, _, _, _ => by omega
  | [], P, k, j + 1, H, hns, hj, hkP, h, hl, hf, c3, k0, s3, hK => by
    show F47_s0 _ _ _ _ (F47_l0 _ _ _ _ j) _ _ _ _ _ _ _
    unfold F47_s0
    have hlen : P.length = ns.length := by rw [← hns]; simp
    have hd : decide ((P.length : Int) < (ns.length : Int)) = false := dF (by omega)
    (repeat (first | (with_reducible apply bindP_intro; (focus (first | with_reducible rfl | (simp only [walkR, get0, getS, Nat.zero_add, Nat.add_zero, Bool.not_true, Bool.not_false, decide_true, decide_false, reduceIte, and_self, Bool.false_eq_true, hd] <;> with_reducible rfl)))) | (with_reducible apply bind2_intro; (focus (first | with_reducible rfl | (simp only [walkR, get0, getS, Nat.zero_add, Nat.add_zero, Bool.not_true, Bool.not_false, decide_true, decide_false, reduceIte, and_self, Bool.false_eq_true, hd] <;> with_reducible rfl)))) | with_reducible apply cond_t | with_reducible apply cond_f))
    unfold F47_j0
    exact hK H h (.refl _ _)
  | x :: xs, P, k, j + 1, H, hns, hj, hkP, h, hl, hf, c3, k0, s3, hK => by
    show F47_s0 _ _ _ _ (F47_l0 _ _ _ _ j) _ _ _ _ _ _ _
    unfold F47_s0
    have hlen : P.length + (xs.length + 1) = ns.length := by rw [← hns]; simp
    have hd : decide ((P.length : Int) < (ns.length : Int)) = true := dT (by omega)
    have hnx : ns[P.length]? = some x.1 := by rw [← hns]; simp
    obtain ⟨p1, p2, p3⟩ := sl_at s3 (encR_get hnx)
    have hnd : ((P ++ x :: xs).map (·.1)).Nodup := by rw [hns]; exact hn
    obtain ⟨v, ok, hv, hok, hlk⟩ := h.look x.1
    have hlk' := hlk false
    have hll : lk (P ++ x :: xs) x.1 = some x.2 := mid_lk hnd
    have hv' : FilAt M H v x.2 := by
      have : ((lk (P ++ x :: xs) x.1).getD noFil) = x.2 := by rw [hll]; rfl
      rw [← this]; exact hv
    have hv0 := hv'
    obtain ⟨cs, rfl, hcl, hco, st⟩ := fil_st (lim := lim) (H1 := H) hl hv'
    obtain ⟨s, q1, q2, q3⟩ := hv0
    simp only [AVal.agg.injEq] at q1
    subst q1
    have hfo := hf x.1 x.2 (by simp)
    have lx : ∀ o, aload (H.push (.cells [s, .int .i64 (x.2.syn : Int), .bool x.2.cut, .str x.2.torn])) none (.ptr (some (H.next, o))) = ([s, .int .i64 (x.2.syn : Int), .bool x.2.cut, .str x.2.torn] : List AVal)[o]? := fun o => aload_new1 _ _ _
    have hsl : alen false s = some (.int .i64 (x.2.recs.length : Int)) := by rw [q2.sl.len, encR_len]
    have kx : Keeps2 H (H.push (.cells [s, .int .i64 (x.2.syn : Int), .bool x.2.cut, .str x.2.torn])) := .push _ _
    have nx : (H.push (.cells [s, .int .i64 (x.2.syn : Int), .bool x.2.cut, .str x.2.torn])).next = H.next + 1 := Heap.next_push _ _
    have hi : IntKind.i64.wrap ((P.length : Int) + 1) = ((P.length + 1 : Nat) : Int) := i64_succ (by omega)
    have hlt := h.ltb
    have hltm := h.ltm
    -- the join: the value g is laid
    have join : ∀ (G : Heap) (g : Fil) (cs : List AVal) (k' : Nat), Keeps2 H G → G.cells H.next = some cs → cs.length = 4 → FilAt M G (.agg cs) g → k' ≤ P.length + 1 →
        (∀ H', DiskAt M H' b m ⟨(P ++ [(x.1, g)]) ++ crashFs keep torn k' xs, true, fuse⟩ → Fram (dft b m) H H' → K (.tup []) H') →
        F47_j1 (Ahs.runT ap (n + 2)) lim N K (F47_l0 (Ahs.runT ap (n + 2)) lim N K j) (ptr b) (ptr x3) (.int .i64 (k' : Int)) (.str x.1) (.ptr (some (H.next, 0))) l (.int .i64 (ns.length : Int)) (.int .i64 (P.length : Int)) G := by
      intro G g cs k' kG cG hc4 vG hk' hK'
      unfold F47_j1
      have hG := h.keep kG
      obtain ⟨G2, u1, u2, u3⟩ := hG.put2 (lim := lim) hMm hlm x.1 vG (mid_put (g := g) hnd)
      have fG : Fram (dft b m) H G2 := (Fram.of kG).trans u3 (fun c _ e => e)
      (repeat (first | (with_reducible apply bindP_intro; (focus (first | with_reducible rfl | (simp only [walkR, get0, getS, Nat.zero_add, Nat.add_zero, Bool.not_true, Bool.not_false, decide_true, decide_false, reduceIte, and_self, Bool.false_eq_true, aload_one hG.cells, aload_all (n := 4) cG hc4, u1, hi] <;> with_reducible rfl)))) | (with_reducible apply bind2_intro; (focus (first | with_reducible rfl | (simp only [walkR, get0, getS, Nat.zero_add, Nat.add_zero, Bool.not_true, Bool.not_false, decide_true, decide_false, reduceIte, and_self, Bool.false_eq_true, aload_one hG.cells, aload_all (n := 4) cG hc4, u1, hi] <;> with_reducible rfl)))) | with_reducible apply cond_t | with_reducible apply cond_f))
      have hPl : (P ++ [(x.1, g)]).length = P.length + 1 := by simp
      rw [← hPl]
      refine crash_loop (fuse := fuse) hn hMb hMm hlm ho1 ho2 hi1 hi2 hkn htn hks hts hb0 hm0 hb3 hx3 hN xs (P ++ [(x.1, g)]) k' j G2 (by rw [← hns]; simp) (by simp at hj; omega) (by rw [hPl]; exact hk') ?_ (by have := fG.next; omega) (fun y f hm => hf y f (by simp [hm])) (fG.cells c3 hx3) (Fram.keeps k0 fG fun c hc e => by rcases e with e | e <;> omega) (s3.frame fG hb3) ?_
      · have : P ++ [(x.1, g)] ++ xs = P ++ (x.1, g) :: xs := by simp
        rw [this]; exact u2
      · intro H' d1 d2
        exact hK' H' d1 (fG.trans d2 (fun c _ e => e))
    by_cases hs : x.2.syn < x.2.recs.length
    · have hds : decide ((x.2.syn : Int) < (x.2.recs.length : Int)) = true := dT (by omega)
      obtain ⟨r, G, e1, e2, s4, e3, e4, e5⟩ := fcrash_c (n := n) (lim := lim) (k := k) (by omega) (q2.keep kx) hfo hs (hks.keep (k0.trans kx)) (hts.keep (k0.trans kx)) ho1 ho2 hi1 hi2 hkn htn
      have hxG : G.cells H.next = some [s, .int .i64 (x.2.syn : Int), .bool x.2.cut, .str x.2.torn] := e2.cells (cells_push_new H _)
      have ho4 := e4.one
      have hGn : H.next < G.next := Heap.cells_lt hxG
      have st2 : astore lim G 4 (.ptr (some (H.next, 0))) (.agg (filV s4 (leftF x.2 keep torn k).syn (leftF x.2 keep torn k).cut (leftF x.2 keep torn k).torn)) = some (G.set H.next (.cells (filV s4 (leftF x.2 keep torn k).syn (leftF x.2 keep torn k).cut (leftF x.2 keep torn k).torn))) := by
        rw [astore_at (x := .agg (filV s4 (leftF x.2 keep torn k).syn (leftF x.2 keep torn k).cut (leftF x.2 keep torn k).torn)) (n := 4) (o := 0) hxG hl rfl (Nat.le_refl _) (filV_one ho4.1 _ _ _)]
        rfl
      have kG : Keeps2 H G := kx.trans e2
      have hkw : IntKind.i64.wrap ((k : Int) + 1) = ((k + 1 : Nat) : Int) := i64_succ (by omega)
      have c3' := kx.cells c3
      subst e3
      (repeat (first | (with_reducible apply bindP_intro; (focus (first | with_reducible rfl | (simp only [walkR, get0, getS, Nat.zero_add, Nat.add_zero, Bool.not_true, Bool.not_false, decide_true, decide_false, reduceIte, and_self, Bool.false_eq_true, hd, p2, p3, aload_one h.cells, hlk', st, lx, hsl, hds, aload_all (n := 4) (cells_push_new H [s, .int .i64 (x.2.syn : Int), .bool x.2.cut, .str x.2.torn]) rfl, aload_all (n := 2) c3' rfl, e1, st2, hkw] <;> with_reducible rfl)))) | (with_reducible apply bind2_intro; (focus (first | with_reducible rfl | (simp only [walkR, get0, getS, Nat.zero_add, Nat.add_zero, Bool.not_true, Bool.not_false, decide_true, decide_false, reduceIte, and_self, Bool.false_eq_true, hd, p2, p3, aload_one h.cells, hlk', st, lx, hsl, hds, aload_all (n := 4) (cells_push_new H [s, .int .i64 (x.2.syn : Int), .bool x.2.cut, .str x.2.torn]) rfl, aload_all (n := 2) c3' rfl, e1, st2, hkw] <;> with_reducible rfl)))) | with_reducible apply cond_t | with_reducible apply cond_f))
      refine join _ (leftF x.2 keep torn k) _ (k + 1) (kG.setNew (Nat.le_refl _) _) (cells_set_same hGn) rfl ⟨s4, rfl, e4.frame (Fram.set (S := fun c => c = H.next) rfl) (fun c hc e => by
        rw [e5] at hc
        have := q2.lt c hc
        omega), fun c hc e => q3 c (by rw [← e5]; exact hc) e⟩ (by omega) ?_
      intro H' d1 d2
      refine hK H' ?_ d2
      have : P ++ crashFs keep torn k (x :: xs) = P ++ [(x.1, leftF x.2 keep torn k)] ++ crashFs keep torn (k + 1) xs := by
        rw [crashFs, if_pos hs]; simp
      rw [this]; exact d1
    · have hds : decide ((x.2.syn : Int) < (x.2.recs.length : Int)) = false := dF (by omega)
      (repeat (first | (with_reducible apply bindP_intro; (focus (first | with_reducible rfl | (simp only [walkR, get0, getS, Nat.zero_add, Nat.add_zero, Bool.not_true, Bool.not_false, decide_true, decide_false, reduceIte, and_self, Bool.false_eq_true, hd, p2, p3, aload_one h.cells, hlk', st, lx, hsl, hds] <;> with_reducible rfl)))) | (with_reducible apply bind2_intro; (focus (first | with_reducible rfl | (simp only [walkR, get0, getS, Nat.zero_add, Nat.add_zero, Bool.not_true, Bool.not_false, decide_true, decide_false, reduceIte, and_self, Bool.false_eq_true, hd, p2, p3, aload_one h.cells, hlk', st, lx, hsl, hds] <;> with_reducible rfl)))) | with_reducible apply cond_t | with_reducible apply cond_f))
      refine join _ x.2 _ k kx (cells_push_new H _) rfl ⟨s, rfl, q2.keep kx, q3⟩ (by omega) ?_
      intro H' d1 d2
      refine hK H' ?_ d2
      have : P ++ crashFs keep torn k (x :: xs) = P ++ [(x.1, x.2)] ++ crashFs keep torn k xs := by
        rw [crashFs, if_neg hs]; simp
      rw [this]; exact d1

theorem crash_c {n lim K : Nat} {keep torn : List Int} {ks ts : AVal} (h : DiskAt M H b m D) (hD : DskOK K D) (hK : K ≤ 1000000000) (hMb : M b) (hMm : M m) (hlb : lim ≤ b) (hlm : lim ≤ m) (hKn : K < n)
    {H0 : Heap} (hks : Sl H0 1 ks (encI keep)) (hts : Sl H0 1 ts (encI torn)) (hb0 : H0.next ≤ b) (hm0 : H0.next ≤ m) (k0 : Keeps2 H0 H) (ho1 : ks.one = true) (ho2 : ts.one = true) (hi1 : ∀ x ∈ keep, inI64 x) (hi2 : ∀ x ∈ torn, inI64 x) (hkn : keep.length ≤ 1000000) (htn : torn.length ≤ 1000000) :
    ∃ v H', Ahs.runT ap (n + 3) lim (.fn 47) [ptr b, .agg [ks, ts]] H = some (v, H') ∧ DiskAt M H' b m (crashD D keep torn) ∧ Fram (dft b m) H H' := by
  refine F47_run a47 ?_
  unfold F47
  have hlt := h.ltb
  have hltm := h.ltm
  have hb : (([ks, ts] : List AVal).all fun v => v.one) = true := by simp only [List.all_cons, List.all_nil, ho1, ho2, Bool.and_true]
  have kx : Keeps2 H (H.push (.cells [ks, ts])) := .push _ _
  have nx : (H.push (.cells [ks, ts])).next = H.next + 1 := Heap.next_push _ _
  have h1 := h.keep kx
  have st : astore lim (H.push (.cells [ks, ts])) 1 (.ptr (some (b, 1))) (.bool true) = some ((H.push (.cells [ks, ts])).set b (.cells [.map (some m), .bool true, .int .i64 (D.fuse : Int)])) := astore_cell h1.cells hlb rfl rfl (by show 1 < 3; omega) rfl
  have h2 : DiskAt M ((H.push (.cells [ks, ts])).set b (.cells [.map (some m), .bool true, .int .i64 (D.fuse : Int)])) b m ⟨D.fs, true, D.fuse⟩ := h1.setb (D' := ⟨D.fs, true, D.fuse⟩) hMb rfl
  have f2 : Fram (dft b m) H ((H.push (.cells [ks, ts])).set b (.cells [.map (some m), .bool true, .int .i64 (D.fuse : Int)])) := (Fram.of kx).set' (.inl (.inl rfl))
  have cx : ((H.push (.cells [ks, ts])).set b (.cells [.map (some m), .bool true, .int .i64 (D.fuse : Int)])).cells H.next = some [ks, ts] := cells_set_other (cells_push_new H _) (by omega)
  have n2 : ((H.push (.cells [ks, ts])).set b (.cells [.map (some m), .bool true, .int .i64 (D.fuse : Int)])).next = H.next + 1 := by rw [Heap.next_set, nx]
  generalize (H.push (.cells [ks, ts])).set b (.cells [.map (some m), .bool true, .int .i64 (D.fuse : Int)]) = H2 at *
  have hD2 : DskOK K ⟨D.fs, true, D.fuse⟩ := ⟨hD.asc, hD.names, hD.files, hD.len, hD.fuse⟩
  obtain ⟨l, H3, e1, e2, e3, e4⟩ := list_c (n := n + 1) (lim := lim) h2 hD2 hK
  have hll : alen false l = some (.int .i64 ((D.fs.map (·.1)).length : Nat)) := by rw [e2.len, encR_len]
  have f3 : Fram (dft b m) H H3 := f2.trans (.of (S := dft b m) e3) (fun c _ e => e)
  have hlen := hD.len
  have e3n := e3.next
  (repeat (first | (with_reducible apply bindP_intro; (focus (first | with_reducible rfl | (simp only [walkR, get0, getS, Nat.zero_add, Nat.add_zero, Bool.not_true, Bool.not_false, decide_true, decide_false, reduceIte, and_self, Bool.false_eq_true, hb, none_c h1, st, e1, hll] <;> with_reducible rfl)))) | (with_reducible apply bind2_intro; (focus (first | with_reducible rfl | (simp only [walkR, get0, getS, Nat.zero_add, Nat.add_zero, Bool.not_true, Bool.not_false, decide_true, decide_false, reduceIte, and_self, Bool.false_eq_true, hb, none_c h1, st, e1, hll] <;> with_reducible rfl)))) | with_reducible apply cond_t | with_reducible apply cond_f))
  refine crash_loop (n := n) (P := []) (rest := D.fs) (k := 0) (ns := D.fs.map (·.1)) (fuse := D.fuse) (M := M) hD.asc.nodup hMb hMm hlm ho1 ho2 hi1 hi2 hkn htn hks hts hb0 hm0 (fun c hc e => by have := e4 c hc; rcases e with e | e <;> omega) (fun e => by rcases e with e | e <;> omega) (by simp; omega) (x3 := H.next) (n + 2) H3 rfl (by omega) (Nat.le_refl _) (h2.keep e3) (by omega) (fun y f hm => (hD.files y f hm).mono (by omega)) (e3.cells cx) (Fram.keeps k0 f3 fun c hc e => by rcases e with e | e <;> omega) e2 ?_
  intro H' d1 d2
  exact ⟨d1, f3.trans d2 (fun c _ e => e)⟩

end
end Go.Proofs.Ytjflpnahjooffaa.disk
