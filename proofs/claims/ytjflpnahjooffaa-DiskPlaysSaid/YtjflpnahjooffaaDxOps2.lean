/- What the functions of the disk come to: contracts. Second part. -/
import Derived.Test.YtjflpnahjooffaaDxOps1
set_option maxRecDepth 100000
set_option linter.unusedVariables false
set_option linter.unusedSimpArgs false
namespace Go.Proofs.Ytjflpnahjooffaa.disk
open Go.Ahs

section
variable {M : Nat → Prop} {H : Heap} {b m : Nat} {D : Dsk}

theorem FilAt.more {M' : Nat → Prop} {v : AVal} {f : Fil} (h : FilAt M H v f) (hM : ∀ c, c < H.next → M' c → M c) : FilAt M' H v f := by
  obtain ⟨s, h1, h2, h3⟩ := h
  exact ⟨s, h1, h2, fun c hc e => h3 c hc (hM c (h2.lt c hc) e)⟩
theorem FilAt.keep {H' : Heap} {v : AVal} {f : Fil} (h : FilAt M H v f) (hk : Keeps2 H H') : FilAt M H' v f := h.frame (S := fun _ => False) (.of hk) fun _ e => e.elim

theorem onD_none {D : Dsk} (ho : D.off = false) {n : Str} (hl : lk D.fs n = none) (k : Fil → Dsk → Dsk) : onD D n k = (4, D) := by
  unfold onD; rw [if_neg (by rw [ho]; simp), hl]
theorem onD_some {D : Dsk} (ho : D.off = false) {n : Str} {f : Fil} (hl : lk D.fs n = some f) (k : Fil → Dsk → Dsk) : onD D n k = operD D (k f) := by
  unfold onD; rw [if_neg (by rw [ho]; simp), hl]
theorem onD_off {D : Dsk} (ho : D.off = true) (n : Str) (k : Fil → Dsk → Dsk) : onD D n k = (7, D) := by
  unfold onD; rw [if_pos ho]

/-- A file's value is laid in a block of its own. -/
theorem fil_st {lim : Nat} {H1 : Heap} (hl : lim ≤ H1.next) {v : AVal} {f : Fil} (hv : FilAt M H v f) : ∃ cs, v = .agg cs ∧ cs.length = 4 ∧ (cs.all fun v => v.one) = true ∧ astore lim (H1.push (.cells ze3a7c2)) 4 (.ptr (some (H1.next, 0))) v = some (H1.push (.cells cs)) := by
  obtain ⟨s, rfl, h2, h3⟩ := hv
  have ho : (([s, .int .i64 (f.syn : Int), .bool f.cut, .str f.torn] : List AVal).all fun v => v.one) = true := by
    simp only [List.all_cons, List.all_nil, h2.one.1, Bool.and_true]; rfl
  exact ⟨_, rfl, rfl, ho, astore_new (cs := ze3a7c2) (x := .agg [s, .int .i64 (f.syn : Int), .bool f.cut, .str f.torn]) hl rfl rfl ho⟩

theorem oper_c {n lim K g : Nat} {caps : List AVal} {name : Str} {k : Fil → Dsk → Dsk} (h : DiskAt M H b m D) (hD : DskOK K D) (hMb : M b) (hMm : M m) (hlb : lim ≤ b)
    (hdo : ∀ f v H5, FilAt M H5 v f → DiskAt M H5 b m (burn D) → Fram (dft b m) H H5 → f.recs.length ≤ K → ∃ r H6, Ahs.runT ap (n + 3) lim (.fn g) ([] ++ [v] ++ caps) H5 = some (r, H6) ∧ DiskAt M H6 b m (k f (burn D)) ∧ Fram (dft b m) H5 H6) :
    ∃ v H', Ahs.runT ap (n + 4) lim (.fn 80) [ptr b, .str name, .fn g [] caps] H = some (v, H') ∧ DOut M H b m (onD D name k).1 (onD D name k).2 v H' := by
  refine F80_run a80 ?_
  unfold F80
  have hlt := h.ltb
  have hltm := h.ltm
  cases ho : D.off with
  | true =>
    have hp : powerI D = 7 := by unfold powerI; rw [ho]; rfl
    have hq : ((7 : Int) != 0) = true := rfl
    (repeat (first | (with_reducible apply bindP_intro; (focus (first | with_reducible rfl | (simp only [walkR, get0, getS, Nat.zero_add, Nat.add_zero, Bool.not_true, Bool.not_false, decide_true, decide_false, reduceIte, and_self, Bool.false_eq_true, power_c h, hp, hq] <;> with_reducible rfl)))) | (with_reducible apply bind2_intro; (focus (first | with_reducible rfl | (simp only [walkR, get0, getS, Nat.zero_add, Nat.add_zero, Bool.not_true, Bool.not_false, decide_true, decide_false, reduceIte, and_self, Bool.false_eq_true, power_c h, hp, hq] <;> with_reducible rfl)))) | with_reducible apply cond_t | with_reducible apply cond_f))
    rw [onD_off ho]
    exact ⟨rfl, h, .refl _ _⟩
  | false =>
    have hp : powerI D = 0 := by unfold powerI; rw [ho]; rfl
    obtain ⟨v, ok, hv, hok, hlk⟩ := h.look name
    have hlk' := hlk true
    obtain ⟨cs, rfl, hcl, hco, st⟩ := fil_st (lim := lim) (H1 := H) (by omega) hv
    have kx : Keeps2 H (H.push (.cells cs)) := .push _ _
    have h1 := h.keep kx
    cases hl : lk D.fs name with
    | none =>
      rw [hl] at hok
      subst hok
      rw [onD_none ho hl]
      have hno : (none : Option Fil).isSome = false := rfl
      (repeat (first | (with_reducible apply bindP_intro; (focus (first | with_reducible rfl | (simp only [walkR, get0, getS, Nat.zero_add, Nat.add_zero, Bool.not_true, Bool.not_false, decide_true, decide_false, reduceIte, and_self, Bool.false_eq_true, power_c h, hp, ne00, aload_one h.cells, hlk', st, hno] <;> with_reducible rfl)))) | (with_reducible apply bind2_intro; (focus (first | with_reducible rfl | (simp only [walkR, get0, getS, Nat.zero_add, Nat.add_zero, Bool.not_true, Bool.not_false, decide_true, decide_false, reduceIte, and_self, Bool.false_eq_true, power_c h, hp, ne00, aload_one h.cells, hlk', st, hno] <;> with_reducible rfl)))) | with_reducible apply cond_t | with_reducible apply cond_f))
      exact ⟨rfl, h1, .of kx⟩
    | some f =>
      rw [hl] at hok hv
      subst hok
      rw [onD_some ho hl]
      obtain ⟨vb, H2, e1, e2, e3, e4⟩ := burns_c (n := n) (lim := lim) h1 hMb hlb hD.fuse
      have f02 : Fram (dft b m) H H2 := (Fram.of kx).trans e4 (fun c _ e => e)
      have hxc : H2.cells H.next = some cs := e4.cells (cells_push_new H _) (fun e => by rcases e with e | e <;> omega)
      unfold operD
      cases hbo : (burn D).off with
      | true =>
        have hp2 : powerI (burn D) = 7 := by unfold powerI; rw [hbo]; rfl
        have hq : ((7 : Int) != 0) = true := rfl
        rw [hp2] at e2
        subst e2
        have hso : (some f).isSome = true := rfl
        (repeat (first | (with_reducible apply bindP_intro; (focus (first | with_reducible rfl | (simp only [walkR, get0, getS, Nat.zero_add, Nat.add_zero, Bool.not_true, Bool.not_false, decide_true, decide_false, reduceIte, and_self, Bool.false_eq_true, power_c h, hp, ne00, aload_one h.cells, hlk', st, e1, hq, hso] <;> with_reducible rfl)))) | (with_reducible apply bind2_intro; (focus (first | with_reducible rfl | (simp only [walkR, get0, getS, Nat.zero_add, Nat.add_zero, Bool.not_true, Bool.not_false, decide_true, decide_false, reduceIte, and_self, Bool.false_eq_true, power_c h, hp, ne00, aload_one h.cells, hlk', st, e1, hq, hso] <;> with_reducible rfl)))) | with_reducible apply cond_t | with_reducible apply cond_f))
        exact ⟨rfl, e3, f02⟩
      | false =>
        have hp2 : powerI (burn D) = 0 := by unfold powerI; rw [hbo]; rfl
        rw [hp2] at e2
        subst e2
        have hso : (some f).isSome = true := rfl
        have hv2 : FilAt M H2 (.agg cs) f := by
          have := (hv.keep kx)
          rw [Option.getD_some] at this
          obtain ⟨s, q1, q2, q3⟩ := this
          exact ⟨s, q1, q2.frame e4 (fun c hc e => q3 c hc (by rcases e with rfl | rfl <;> assumption)), q3⟩
        obtain ⟨r, H6, d1, d2, d3⟩ := hdo f (.agg cs) H2 hv2 e3 f02 (hD.files _ _ (lk_mem hl)).many
        have hcv : callvO (Ahs.runT ap (n + 3)) lim (.fn g [] caps) [.agg cs] H2 = some (r, H6) := d1
        (repeat (first | (with_reducible apply bindP_intro; (focus (first | with_reducible rfl | (simp only [walkR, get0, getS, Nat.zero_add, Nat.add_zero, Bool.not_true, Bool.not_false, decide_true, decide_false, reduceIte, and_self, Bool.false_eq_true, power_c h, hp, ne00, aload_one h.cells, hlk', st, e1, hso, aload_all (n := 4) hxc hcl, hcv] <;> with_reducible rfl)))) | (with_reducible apply bind2_intro; (focus (first | with_reducible rfl | (simp only [walkR, get0, getS, Nat.zero_add, Nat.add_zero, Bool.not_true, Bool.not_false, decide_true, decide_false, reduceIte, and_self, Bool.false_eq_true, power_c h, hp, ne00, aload_one h.cells, hlk', st, e1, hso, aload_all (n := 4) hxc hcl, hcv] <;> with_reducible rfl)))) | with_reducible apply cond_t | with_reducible apply cond_f))
        exact ⟨rfl, d2, f02.trans d3 (fun c _ e => e)⟩

theorem sync1_c {n lim : Nat} (h : DiskAt M H b m D) (hA : Asc D.fs) (hMm : M m) (hlm : lim ≤ m) {x1 x3 : Nat} {name : Str} (c1 : H.cells x1 = some [ptr b]) (c3 : H.cells x3 = some [.str name]) {v : AVal} {f : Fil} (hv : FilAt M H v f) :
    ∃ r H', Ahs.runT ap (n + 1) lim (.fn 81) [v, ptr x1, ptr x3] H = some (r, H') ∧ DiskAt M H' b m { D with fs := ins name { f with syn := f.recs.length } D.fs } ∧ Fram (dft b m) H H' := by
  refine F81_run a81 ?_
  unfold F81
  have hlt := h.ltb
  have hltm := h.ltm
  have l1 := Heap.cells_lt c1
  have l3 := Heap.cells_lt c3
  obtain ⟨s, rfl, hs1, hs2⟩ := hv
  have hco : (([s, .int .i64 (f.syn : Int), .bool f.cut, .str f.torn] : List AVal).all fun v => v.one) = true := by
    simp only [List.all_cons, List.all_nil, hs1.one.1, Bool.and_true]; rfl
  have kx : Keeps2 H (H.push (.cells [s, .int .i64 (f.syn : Int), .bool f.cut, .str f.torn])) := .push _ _
  have lx : ∀ o, aload (H.push (.cells [s, .int .i64 (f.syn : Int), .bool f.cut, .str f.torn])) none (.ptr (some (H.next, o))) = ([s, .int .i64 (f.syn : Int), .bool f.cut, .str f.torn] : List AVal)[o]? := fun o => aload_new1 _ _ _
  have hlen : alen false s = some (.int .i64 (f.recs.length : Int)) := by rw [hs1.sl.len, encR_len]
  have st : astore lim (H.push (.cells [s, .int .i64 (f.syn : Int), .bool f.cut, .str f.torn])) 1 (.ptr (some (H.next, 1))) (.int .i64 (f.recs.length : Int)) = some (H.push (.cells [s, .int .i64 (f.recs.length : Int), .bool f.cut, .str f.torn])) :=
    astore_new1 (by omega) rfl (by show 1 < 4; omega) rfl
  have k2 : Keeps2 H (H.push (.cells [s, .int .i64 (f.recs.length : Int), .bool f.cut, .str f.torn])) := .push _ _
  have h2 := h.keep k2
  obtain ⟨H3, u1, u2, u3⟩ := h2.put (lim := lim) hMm hlm hA name (v := .agg [s, .int .i64 (f.recs.length : Int), .bool f.cut, .str f.torn]) (f := { f with syn := f.recs.length }) ⟨s, rfl, hs1.keep k2, hs2⟩
  have x2 : (H.push (.cells [s, .int .i64 (f.recs.length : Int), .bool f.cut, .str f.torn])).cells H.next = some [s, .int .i64 (f.recs.length : Int), .bool f.cut, .str f.torn] := cells_push_new _ _
  (repeat (first | (with_reducible apply bindP_intro; (focus (first | with_reducible rfl | (simp only [walkR, get0, getS, Nat.zero_add, Nat.add_zero, Bool.not_true, Bool.not_false, decide_true, decide_false, reduceIte, and_self, Bool.false_eq_true, hco, lx, hlen, st, aload_one (k2.cells c1), aload_one h2.cells, aload_one (k2.cells c3), aload_all (n := 4) x2 rfl, u1] <;> with_reducible rfl)))) | (with_reducible apply bind2_intro; (focus (first | with_reducible rfl | (simp only [walkR, get0, getS, Nat.zero_add, Nat.add_zero, Bool.not_true, Bool.not_false, decide_true, decide_false, reduceIte, and_self, Bool.false_eq_true, hco, lx, hlen, st, aload_one (k2.cells c1), aload_one h2.cells, aload_one (k2.cells c3), aload_all (n := 4) x2 rfl, u1] <;> with_reducible rfl)))) | with_reducible apply cond_t | with_reducible apply cond_f))
  exact ⟨u2, (Fram.of k2).trans u3 (fun c _ e => e)⟩

theorem delete1_c {n lim : Nat} (h : DiskAt M H b m D) (hA : Asc D.fs) (hMm : M m) (hlm : lim ≤ m) {x1 x3 : Nat} {name : Str} (c1 : H.cells x1 = some [ptr b]) (c3 : H.cells x3 = some [.str name]) {v : AVal} {f : Fil} (hv : FilAt M H v f) :
    ∃ r H', Ahs.runT ap (n + 1) lim (.fn 89) [v, ptr x1, ptr x3] H = some (r, H') ∧ DiskAt M H' b m { D with fs := del name D.fs } ∧ Fram (dft b m) H H' := by
  refine F89_run a89 ?_
  unfold F89
  obtain ⟨s, rfl, hs1, hs2⟩ := hv
  have hco : (([s, .int .i64 (f.syn : Int), .bool f.cut, .str f.torn] : List AVal).all fun v => v.one) = true := by
    simp only [List.all_cons, List.all_nil, hs1.one.1, Bool.and_true]; rfl
  have k2 : Keeps2 H (H.push (.cells [s, .int .i64 (f.syn : Int), .bool f.cut, .str f.torn])) := .push _ _
  have h2 := h.keep k2
  obtain ⟨H3, u1, u2, u3⟩ := h2.delete (lim := lim) hMm hlm hA name
  (repeat (first | (with_reducible apply bindP_intro; (focus (first | with_reducible rfl | (simp only [walkR, get0, getS, Nat.zero_add, Nat.add_zero, Bool.not_true, Bool.not_false, decide_true, decide_false, reduceIte, and_self, Bool.false_eq_true, hco, aload_one (k2.cells c1), aload_one h2.cells, aload_one (k2.cells c3), u1] <;> with_reducible rfl)))) | (with_reducible apply bind2_intro; (focus (first | with_reducible rfl | (simp only [walkR, get0, getS, Nat.zero_add, Nat.add_zero, Bool.not_true, Bool.not_false, decide_true, decide_false, reduceIte, and_self, Bool.false_eq_true, hco, aload_one (k2.cells c1), aload_one h2.cells, aload_one (k2.cells c3), u1] <;> with_reducible rfl)))) | with_reducible apply cond_t | with_reducible apply cond_f))
  exact ⟨u2, (Fram.of k2).trans u3 (fun c _ e => e)⟩

theorem rename1_c {n lim : Nat} (h : DiskAt M H b m D) (hA : Asc D.fs) (hMb : M b) (hMm : M m) (hlm : lim ≤ m) {x1 x3 x5 : Nat} {from' to' : Str} (c1 : H.cells x1 = some [ptr b]) (c3 : H.cells x3 = some [.str from']) (c5 : H.cells x5 = some [.str to'])
    (hn : ∀ c, dft b m c → c ≠ x1 ∧ c ≠ x3 ∧ c ≠ x5) {v : AVal} {f : Fil} (hv : FilAt M H v f) :
    ∃ r H', Ahs.runT ap (n + 1) lim (.fn 88) [v, ptr x1, ptr x3, ptr x5] H = some (r, H') ∧ DiskAt M H' b m { D with fs := ins to' f (del from' D.fs) } ∧ Fram (dft b m) H H' := by
  refine F88_run a88 ?_
  unfold F88
  have hlt := h.ltb
  have hltm := h.ltm
  obtain ⟨s, rfl, hs1, hs2⟩ := hv
  have hco : (([s, .int .i64 (f.syn : Int), .bool f.cut, .str f.torn] : List AVal).all fun v => v.one) = true := by
    simp only [List.all_cons, List.all_nil, hs1.one.1, Bool.and_true]; rfl
  have k2 : Keeps2 H (H.push (.cells [s, .int .i64 (f.syn : Int), .bool f.cut, .str f.torn])) := .push _ _
  have h2 := h.keep k2
  obtain ⟨H3, u1, u2, u3⟩ := h2.delete (lim := lim) hMm hlm hA from'
  have v3 : FilAt M H3 (.agg [s, .int .i64 (f.syn : Int), .bool f.cut, .str f.torn]) f := ⟨s, rfl, (hs1.keep k2).frame u3 (fun c hc e => hs2 c hc (by
    rcases e with rfl | rfl
    · exact hMb
    · exact hMm)), hs2⟩
  obtain ⟨H4, w1, w2, w3⟩ := u2.put (lim := lim) hMm hlm (del_asc hA) to' v3
  have x2 : H3.cells H.next = some [s, .int .i64 (f.syn : Int), .bool f.cut, .str f.torn] := u3.cells (cells_push_new _ _) (fun e => by rcases e with e | e <;> omega)
  have d1 := u3.cells (k2.cells c1) (fun e => (hn _ e).1 rfl)
  have d5 := u3.cells (k2.cells c5) (fun e => (hn _ e).2.2 rfl)
  (repeat (first | (with_reducible apply bindP_intro; (focus (first | with_reducible rfl | (simp only [walkR, get0, getS, Nat.zero_add, Nat.add_zero, Bool.not_true, Bool.not_false, decide_true, decide_false, reduceIte, and_self, Bool.false_eq_true, hco, aload_one (k2.cells c1), aload_one h2.cells, aload_one (k2.cells c3), u1, aload_one d1, aload_one u2.cells, aload_one d5, aload_all (n := 4) x2 rfl, w1] <;> with_reducible rfl)))) | (with_reducible apply bind2_intro; (focus (first | with_reducible rfl | (simp only [walkR, get0, getS, Nat.zero_add, Nat.add_zero, Bool.not_true, Bool.not_false, decide_true, decide_false, reduceIte, and_self, Bool.false_eq_true, hco, aload_one (k2.cells c1), aload_one h2.cells, aload_one (k2.cells c3), u1, aload_one d1, aload_one u2.cells, aload_one d5, aload_all (n := 4) x2 rfl, w1] <;> with_reducible rfl)))) | with_reducible apply cond_t | with_reducible apply cond_f))
  exact ⟨w2, ((Fram.of k2).trans u3 (fun c _ e => e)).trans w3 (fun c _ e => e)⟩

end
end Go.Proofs.Ytjflpnahjooffaa.disk
