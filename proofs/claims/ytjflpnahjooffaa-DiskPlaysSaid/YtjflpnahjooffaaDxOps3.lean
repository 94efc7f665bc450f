/- What the functions of the disk come to: contracts. Third part. -/
import Derived.Test.YtjflpnahjooffaaDxOps2
set_option maxRecDepth 100000
set_option linter.unusedVariables false
set_option linter.unusedSimpArgs false
namespace Go.Proofs.Ytjflpnahjooffaa.disk
open Go.Ahs

section
variable {M : Nat → Prop} {H : Heap} {b m : Nat} {D : Dsk}

theorem sync_c {n lim K : Nat} (h : DiskAt M H b m D) (hD : DskOK K D) (hMb : M b) (hMm : M m) (hlb : lim ≤ b) (hlm : lim ≤ m) (name : Str) :
    ∃ v H', Ahs.runT ap (n + 5) lim (.fn 43) [ptr b, .str name] H = some (v, H') ∧ DOut M H b m (syncD D name).1 (syncD D name).2 v H' := by
  refine F43_run a43 ?_
  unfold F43
  have hlt := h.ltb
  have hltm := h.ltm
  have k1 : Keeps2 H (H.push (.cells [ptr b])) := .push _ _
  have n1 : (H.push (.cells [ptr b])).next = H.next + 1 := Heap.next_push _ _
  have k2 : Keeps2 H ((H.push (.cells [ptr b])).push (.cells [.str name])) := k1.trans (.push _ _)
  have n2 : ((H.push (.cells [ptr b])).push (.cells [AVal.str name])).next = H.next + 2 := by rw [Heap.next_push, n1]
  have c1 : ((H.push (.cells [ptr b])).push (.cells [.str name])).cells H.next = some [ptr b] := cells_push_old (cells_push_new H _)
  have c3 : ((H.push (.cells [ptr b])).push (.cells [.str name])).cells (H.push (.cells [ptr b])).next = some [.str name] := cells_push_new _ _
  obtain ⟨v, H', e1, e2, e3, e4⟩ := oper_c (n := n) (lim := lim) (name := name) (g := 81) (caps := [ptr H.next, ptr (H.push (.cells [ptr b])).next]) (k := fun f B => { B with fs := ins name { f with syn := f.recs.length } B.fs }) (h.keep k2) hD hMb hMm hlb (by
    intro f v H5 q1 q2 q3 _
    obtain ⟨r, H6, d1, d2, d3⟩ := sync1_c (n := n + 2) (lim := lim) q2 (by rw [burn_fs]; exact hD.asc) hMm hlm (x1 := H.next) (x3 := (H.push (.cells [ptr b])).next) (name := name) (q3.cells c1 (fun e => by rcases e with e | e <;> omega)) (q3.cells c3 (fun e => by rcases e with e | e <;> omega)) q1
    exact ⟨r, H6, d1, d2, d3⟩)
  (repeat (first | (with_reducible apply bindP_intro; (focus (first | with_reducible rfl | (simp only [walkR, get0, getS, Nat.zero_add, Nat.add_zero, Bool.not_true, Bool.not_false, decide_true, decide_false, reduceIte, and_self, Bool.false_eq_true, boxR, aload_one c1, aload_one c3, e1] <;> with_reducible rfl)))) | (with_reducible apply bind2_intro; (focus (first | with_reducible rfl | (simp only [walkR, get0, getS, Nat.zero_add, Nat.add_zero, Bool.not_true, Bool.not_false, decide_true, decide_false, reduceIte, and_self, Bool.false_eq_true, boxR, aload_one c1, aload_one c3, e1] <;> with_reducible rfl)))) | with_reducible apply cond_t | with_reducible apply cond_f))
  exact ⟨e2, e3, (Fram.of k2).trans e4 (fun c _ e => e)⟩

theorem delete_c {n lim K : Nat} (h : DiskAt M H b m D) (hD : DskOK K D) (hMb : M b) (hMm : M m) (hlb : lim ≤ b) (hlm : lim ≤ m) (name : Str) :
    ∃ v H', Ahs.runT ap (n + 5) lim (.fn 51) [ptr b, .str name] H = some (v, H') ∧ DOut M H b m (deleteD D name).1 (deleteD D name).2 v H' := by
  refine F51_run a51 ?_
  unfold F51
  have hlt := h.ltb
  have hltm := h.ltm
  have k1 : Keeps2 H (H.push (.cells [ptr b])) := .push _ _
  have n1 : (H.push (.cells [ptr b])).next = H.next + 1 := Heap.next_push _ _
  have k2 : Keeps2 H ((H.push (.cells [ptr b])).push (.cells [.str name])) := k1.trans (.push _ _)
  have c1 : ((H.push (.cells [ptr b])).push (.cells [.str name])).cells H.next = some [ptr b] := cells_push_old (cells_push_new H _)
  have c3 : ((H.push (.cells [ptr b])).push (.cells [.str name])).cells (H.push (.cells [ptr b])).next = some [.str name] := cells_push_new _ _
  obtain ⟨v, H', e1, e2, e3, e4⟩ := oper_c (n := n) (lim := lim) (name := name) (g := 89) (caps := [ptr H.next, ptr (H.push (.cells [ptr b])).next]) (k := fun _ B => { B with fs := del name B.fs }) (h.keep k2) hD hMb hMm hlb (by
    intro f v H5 q1 q2 q3 _
    obtain ⟨r, H6, d1, d2, d3⟩ := delete1_c (n := n + 2) (lim := lim) q2 (by rw [burn_fs]; exact hD.asc) hMm hlm (x1 := H.next) (x3 := (H.push (.cells [ptr b])).next) (name := name) (q3.cells c1 (fun e => by rcases e with e | e <;> omega)) (q3.cells c3 (fun e => by rcases e with e | e <;> omega)) q1
    exact ⟨r, H6, d1, d2, d3⟩)
  (repeat (first | (with_reducible apply bindP_intro; (focus (first | with_reducible rfl | (simp only [walkR, get0, getS, Nat.zero_add, Nat.add_zero, Bool.not_true, Bool.not_false, decide_true, decide_false, reduceIte, and_self, Bool.false_eq_true, boxR, aload_one c1, aload_one c3, e1] <;> with_reducible rfl)))) | (with_reducible apply bind2_intro; (focus (first | with_reducible rfl | (simp only [walkR, get0, getS, Nat.zero_add, Nat.add_zero, Bool.not_true, Bool.not_false, decide_true, decide_false, reduceIte, and_self, Bool.false_eq_true, boxR, aload_one c1, aload_one c3, e1] <;> with_reducible rfl)))) | with_reducible apply cond_t | with_reducible apply cond_f))
  exact ⟨e2, e3, (Fram.of k2).trans e4 (fun c _ e => e)⟩

theorem rename_c {n lim K : Nat} (h : DiskAt M H b m D) (hD : DskOK K D) (hMb : M b) (hMm : M m) (hlb : lim ≤ b) (hlm : lim ≤ m) (x y : Str) :
    ∃ v H', Ahs.runT ap (n + 5) lim (.fn 49) [ptr b, .str x, .str y] H = some (v, H') ∧ DOut M H b m (renameD D x y).1 (renameD D x y).2 v H' := by
  refine F49_run a49 ?_
  unfold F49 renameD
  have hlt := h.ltb
  have hltm := h.ltm
  have k1 : Keeps2 H (H.push (.cells [ptr b])) := .push _ _
  have n1 : (H.push (.cells [ptr b])).next = H.next + 1 := Heap.next_push _ _
  have k2 : Keeps2 H ((H.push (.cells [ptr b])).push (.cells [.str x])) := k1.trans (.push _ _)
  have n2 : ((H.push (.cells [ptr b])).push (.cells [.str x])).next = H.next + 2 := by rw [Heap.next_push, n1]
  have k3 : Keeps2 H (((H.push (.cells [ptr b])).push (.cells [.str x])).push (.cells [.str y])) := k2.trans (.push _ _)
  have c1 : (((H.push (.cells [ptr b])).push (.cells [.str x])).push (.cells [.str y])).cells H.next = some [ptr b] := cells_push_old (cells_push_old (cells_push_new H _))
  have c3 : (((H.push (.cells [ptr b])).push (.cells [.str x])).push (.cells [.str y])).cells (H.push (.cells [ptr b])).next = some [.str x] := cells_push_old (cells_push_new _ _)
  have c5 : (((H.push (.cells [ptr b])).push (.cells [.str x])).push (.cells [.str y])).cells ((H.push (.cells [ptr b])).push (.cells [.str x])).next = some [.str y] := cells_push_new _ _
  have h3 := h.keep k3
  cases ho : D.off with
  | true =>
    have hp : powerI D = 7 := by unfold powerI; rw [ho]; rfl
    have hq : ((7 : Int) != 0) = true := rfl
    (repeat (first | (with_reducible apply bindP_intro; (focus (first | with_reducible rfl | (simp only [walkR, get0, getS, Nat.zero_add, Nat.add_zero, Bool.not_true, Bool.not_false, decide_true, decide_false, reduceIte, and_self, Bool.false_eq_true, boxR, aload_one c1, power_c h3, hp, hq] <;> with_reducible rfl)))) | (with_reducible apply bind2_intro; (focus (first | with_reducible rfl | (simp only [walkR, get0, getS, Nat.zero_add, Nat.add_zero, Bool.not_true, Bool.not_false, decide_true, decide_false, reduceIte, and_self, Bool.false_eq_true, boxR, aload_one c1, power_c h3, hp, hq] <;> with_reducible rfl)))) | with_reducible apply cond_t | with_reducible apply cond_f))
    exact ⟨rfl, h3, .of k3⟩
  | false =>
    have hp : powerI D = 0 := by unfold powerI; rw [ho]; rfl
    simp only [Bool.false_eq_true, if_false]
    cases hr : rightN y with
    | false =>
      (repeat (first | (with_reducible apply bindP_intro; (focus (first | with_reducible rfl | (simp only [walkR, get0, getS, Nat.zero_add, Nat.add_zero, Bool.not_true, Bool.not_false, decide_true, decide_false, reduceIte, and_self, Bool.false_eq_true, boxR, aload_one c1, aload_one c5, power_c h3, hp, ne00, right_c, hr] <;> with_reducible rfl)))) | (with_reducible apply bind2_intro; (focus (first | with_reducible rfl | (simp only [walkR, get0, getS, Nat.zero_add, Nat.add_zero, Bool.not_true, Bool.not_false, decide_true, decide_false, reduceIte, and_self, Bool.false_eq_true, boxR, aload_one c1, aload_one c5, power_c h3, hp, ne00, right_c, hr] <;> with_reducible rfl)))) | with_reducible apply cond_t | with_reducible apply cond_f))
      exact ⟨rfl, h3, .of k3⟩
    | true =>
      obtain ⟨v, H', e1, e2, e3, e4⟩ := oper_c (n := n) (lim := lim) (name := x) (g := 88) (caps := [ptr H.next, ptr (H.push (.cells [ptr b])).next, ptr ((H.push (.cells [ptr b])).push (.cells [.str x])).next]) (k := fun f B => { B with fs := ins y f (del x B.fs) }) h3 hD hMb hMm hlb (by
        intro f v H5 q1 q2 q3 _
        obtain ⟨r, H6, d1, d2, d3⟩ := rename1_c (n := n + 2) (lim := lim) q2 (by rw [burn_fs]; exact hD.asc) hMb hMm hlm (x1 := H.next) (x3 := (H.push (.cells [ptr b])).next) (x5 := ((H.push (.cells [ptr b])).push (.cells [.str x])).next) (from' := x) (to' := y) (q3.cells c1 (fun e => by rcases e with e | e <;> omega)) (q3.cells c3 (fun e => by rcases e with e | e <;> omega)) (q3.cells c5 (fun e => by rcases e with e | e <;> omega))
          (fun c e => by rcases e with rfl | rfl <;> refine ⟨?_, ?_, ?_⟩ <;> omega) q1
        exact ⟨r, H6, d1, d2, d3⟩)
      (repeat (first | (with_reducible apply bindP_intro; (focus (first | with_reducible rfl | (simp only [walkR, get0, getS, Nat.zero_add, Nat.add_zero, Bool.not_true, Bool.not_false, decide_true, decide_false, reduceIte, and_self, Bool.false_eq_true, boxR, aload_one c1, aload_one c3, aload_one c5, power_c h3, hp, ne00, right_c, hr, e1] <;> with_reducible rfl)))) | (with_reducible apply bind2_intro; (focus (first | with_reducible rfl | (simp only [walkR, get0, getS, Nat.zero_add, Nat.add_zero, Bool.not_true, Bool.not_false, decide_true, decide_false, reduceIte, and_self, Bool.false_eq_true, boxR, aload_one c1, aload_one c3, aload_one c5, power_c h3, hp, ne00, right_c, hr, e1] <;> with_reducible rfl)))) | with_reducible apply cond_t | with_reducible apply cond_f))
      simp only [Bool.true_eq_false, if_false]
      exact ⟨e2, e3, (Fram.of k3).trans e4 (fun c _ e => e)⟩

theorem strs_of {s : AVal} {rs : List Str} (h : Fz H 1 s (encR rs)) : strsOf H s = some rs := by
  have hc : ∀ rs : List Str, strsOfCells (encR rs).flatten = some rs := by
    intro rs
    induction rs with
    | nil => rfl
    | cons r rs ih =>
      show (strsOfCells (encR rs).flatten).map (r :: ·) = _
      rw [ih]; rfl
  rcases h.at' with ⟨rfl, h0⟩ | ⟨b, o, c, cs, rfl, _, h3, h4, h5⟩
  · have : rs = [] := by
      cases rs with
      | nil => rfl
      | cons a l => simp [encR] at h0
    subst this
    rfl
  · rw [encR_len] at h4 h5 ⊢
    unfold strsOf
    by_cases hz : rs.length = 0
    · simp only [hz, if_true]
      have : rs = [] := List.length_eq_zero_iff.1 hz
      rw [this]
    · simp only [hz, if_false, h3]
      unfold Ahs.cut
      rw [if_pos (by omega), show (cs.drop o).take rs.length = (encR rs).flatten by rw [← h5, Nat.mul_one]]
      exact hc rs

theorem read_c {n lim K : Nat} (h : DiskAt M H b m D) (hD : DskOK K D) (hK : K ≤ 1000000000000) (hlb : lim ≤ H.next) (name : Str) :
    ∃ v H', Ahs.runT ap (n + 4) lim (.fn 44) [ptr b, .str name] H = some (v, H') ∧ v = .tup [.str (readD D name).1, .int .i64 (readD D name).2] ∧ Keeps2 H H' := by
  refine F44_run a44 ?_
  unfold F44 readD
  cases ho : D.off with
  | true =>
    have hp : powerI D = 7 := by unfold powerI; rw [ho]; rfl
    have hq : ((7 : Int) != 0) = true := rfl
    (repeat (first | (with_reducible apply bindP_intro; (focus (first | with_reducible rfl | (simp only [walkR, get0, getS, Nat.zero_add, Nat.add_zero, Bool.not_true, Bool.not_false, decide_true, decide_false, reduceIte, and_self, Bool.false_eq_true, power_c h, hp, hq] <;> with_reducible rfl)))) | (with_reducible apply bind2_intro; (focus (first | with_reducible rfl | (simp only [walkR, get0, getS, Nat.zero_add, Nat.add_zero, Bool.not_true, Bool.not_false, decide_true, decide_false, reduceIte, and_self, Bool.false_eq_true, power_c h, hp, hq] <;> with_reducible rfl)))) | with_reducible apply cond_t | with_reducible apply cond_f))
    exact ⟨rfl, .refl _⟩
  | false =>
    have hp : powerI D = 0 := by unfold powerI; rw [ho]; rfl
    obtain ⟨v, ok, hv, hok, hlk⟩ := h.look name
    have hlk' := hlk true
    have hv0 := hv
    obtain ⟨cs, rfl, hcl, hco, st⟩ := fil_st (lim := lim) (H1 := H) hlb hv
    have kx : Keeps2 H (H.push (.cells cs)) := .push _ _
    cases hl : lk D.fs name with
    | none =>
      rw [hl] at hok
      subst hok
      have hno : (none : Option Fil).isSome = false := rfl
      (repeat (first | (with_reducible apply bindP_intro; (focus (first | with_reducible rfl | (simp only [walkR, get0, getS, Nat.zero_add, Nat.add_zero, Bool.not_true, Bool.not_false, decide_true, decide_false, reduceIte, and_self, Bool.false_eq_true, power_c h, hp, ne00, aload_one h.cells, hlk', st, hno] <;> with_reducible rfl)))) | (with_reducible apply bind2_intro; (focus (first | with_reducible rfl | (simp only [walkR, get0, getS, Nat.zero_add, Nat.add_zero, Bool.not_true, Bool.not_false, decide_true, decide_false, reduceIte, and_self, Bool.false_eq_true, power_c h, hp, ne00, aload_one h.cells, hlk', st, hno] <;> with_reducible rfl)))) | with_reducible apply cond_t | with_reducible apply cond_f))
      exact ⟨rfl, kx⟩
    | some f =>
      rw [hl] at hok hv0
      rw [Option.getD_some] at hv0
      subst hok
      obtain ⟨s, q1, q2, q3⟩ := hv0
      simp only [AVal.agg.injEq] at q1
      subst q1
      have hso : (some f).isSome = true := rfl
      have hfo := hD.files _ _ (lk_mem hl)
      have hb := hfo.bytes
      have hmy := hfo.many
      unfold bytesF at hb
      rw [List.length_append] at hb
      have hj : ∀ rs : List Str, Lib.join rs [] = rs.flatten := by
        intro rs
        cases rs with
        | nil => rfl
        | cons x r =>
          rw [Lib.join_cons, Lib.joinTail, List.flatten_cons]
          simp
      have hjo : gJoin (H.push (.cells [s, .int .i64 (f.syn : Int), .bool f.cut, .str f.torn])).next [s, .str []] (H.push (.cells [s, .int .i64 (f.syn : Int), .bool f.cut, .str f.torn])) = some (.str f.recs.flatten, H.push (.cells [s, .int .i64 (f.syn : Int), .bool f.cut, .str f.torn])) := by
        simp only [gJoin, strs_of (q2.keep kx), hj]
        rw [if_pos]
        simp only [Bool.and_eq_true, Nat.ble_eq]
        omega
      have lx : ∀ o, aload (H.push (.cells [s, .int .i64 (f.syn : Int), .bool f.cut, .str f.torn])) none (.ptr (some (H.next, o))) = ([s, .int .i64 (f.syn : Int), .bool f.cut, .str f.torn] : List AVal)[o]? := fun o => aload_new1 _ _ _
      have hadd : abin .add (.str f.recs.flatten) (.str f.torn) = some (.str (f.recs.flatten ++ f.torn)) := by
        simp only [abin, abinStr]
        rw [if_neg]
        show ¬ (((f.recs.flatten.length + f.torn.length : Nat) : Int) > 9223372036854775807)
        omega
      (repeat (first | (with_reducible apply bindP_intro; (focus (first | with_reducible rfl | (simp only [walkR, get0, getS, Nat.zero_add, Nat.add_zero, Bool.not_true, Bool.not_false, decide_true, decide_false, reduceIte, and_self, Bool.false_eq_true, power_c h, hp, ne00, aload_one h.cells, hlk', st, hso, lx, q83, hjo, hadd] <;> with_reducible rfl)))) | (with_reducible apply bind2_intro; (focus (first | with_reducible rfl | (simp only [walkR, get0, getS, Nat.zero_add, Nat.add_zero, Bool.not_true, Bool.not_false, decide_true, decide_false, reduceIte, and_self, Bool.false_eq_true, power_c h, hp, ne00, aload_one h.cells, hlk', st, hso, lx, q83, hjo, hadd] <;> with_reducible rfl)))) | with_reducible apply cond_t | with_reducible apply cond_f))
      exact ⟨rfl, kx⟩

def recsD (D : Dsk) (n : Str) : Nat × Nat := (((lk D.fs n).getD noFil).recs.length, ((lk D.fs n).getD noFil).syn)

theorem records_c {n lim : Nat} (h : DiskAt M H b m D) (hlb : lim ≤ H.next) (name : Str) :
    ∃ v H', Ahs.runT ap (n + 2) lim (.fn 45) [ptr b, .str name] H = some (v, H') ∧ v = .tup [.int .i64 ((recsD D name).1 : Int), .int .i64 ((recsD D name).2 : Int)] ∧ Keeps2 H H' := by
  refine F45_run a45 ?_
  unfold F45 recsD
  obtain ⟨v, ok, hv, hok, hlk⟩ := h.look name
  have hlk' := hlk false
  have hv0 := hv
  obtain ⟨cs, rfl, hcl, hco, st⟩ := fil_st (lim := lim) (H1 := H) hlb hv
  obtain ⟨s, q1, q2, q3⟩ := hv0
  simp only [AVal.agg.injEq] at q1
  subst q1
  generalize (lk D.fs name).getD noFil = f at *
  have lx : ∀ o, aload (H.push (.cells [s, .int .i64 (f.syn : Int), .bool f.cut, .str f.torn])) none (.ptr (some (H.next, o))) = ([s, .int .i64 (f.syn : Int), .bool f.cut, .str f.torn] : List AVal)[o]? := fun o => aload_new1 _ _ _
  have hlen : alen false s = some (.int .i64 (f.recs.length : Int)) := by rw [q2.sl.len, encR_len]
  (repeat (first | (with_reducible apply bindP_intro; (focus (first | with_reducible rfl | (simp only [walkR, get0, getS, Nat.zero_add, Nat.add_zero, Bool.not_true, Bool.not_false, decide_true, decide_false, reduceIte, and_self, Bool.false_eq_true, none_c h, aload_one h.cells, hlk', st, lx, hlen] <;> with_reducible rfl)))) | (with_reducible apply bind2_intro; (focus (first | with_reducible rfl | (simp only [walkR, get0, getS, Nat.zero_add, Nat.add_zero, Bool.not_true, Bool.not_false, decide_true, decide_false, reduceIte, and_self, Bool.false_eq_true, none_c h, aload_one h.cells, hlk', st, lx, hlen] <;> with_reducible rfl)))) | with_reducible apply cond_t | with_reducible apply cond_f))
  exact ⟨rfl, .push _ _⟩

theorem down_c {n lim : Nat} (h : DiskAt M H b m D) : Ahs.runT ap (n + 2) lim (.fn 55) [ptr b] H = some (.bool D.off, H) := by
  refine run_eqn (F55_run a55 ?_)
  unfold F55
  (repeat (first | (with_reducible apply bindP_intro; (focus (first | with_reducible rfl | (simp only [walkR, get0, getS, Nat.zero_add, Nat.add_zero, Bool.not_true, Bool.not_false, decide_true, decide_false, reduceIte, and_self, Bool.false_eq_true, none_c h, aload_one h.cells] <;> with_reducible rfl)))) | (with_reducible apply bind2_intro; (focus (first | with_reducible rfl | (simp only [walkR, get0, getS, Nat.zero_add, Nat.add_zero, Bool.not_true, Bool.not_false, decide_true, decide_false, reduceIte, and_self, Bool.false_eq_true, none_c h, aload_one h.cells] <;> with_reducible rfl)))) | with_reducible apply cond_t | with_reducible apply cond_f))
  exact ⟨rfl, rfl⟩

theorem fused_c {n lim : Nat} (h : DiskAt M H b m D) : Ahs.runT ap (n + 2) lim (.fn 50) [ptr b] H = some (.int .i64 (D.fuse : Int), H) := by
  refine run_eqn (F50_run a50 ?_)
  unfold F50
  (repeat (first | (with_reducible apply bindP_intro; (focus (first | with_reducible rfl | (simp only [walkR, get0, getS, Nat.zero_add, Nat.add_zero, Bool.not_true, Bool.not_false, decide_true, decide_false, reduceIte, and_self, Bool.false_eq_true, none_c h, aload_one h.cells] <;> with_reducible rfl)))) | (with_reducible apply bind2_intro; (focus (first | with_reducible rfl | (simp only [walkR, get0, getS, Nat.zero_add, Nat.add_zero, Bool.not_true, Bool.not_false, decide_true, decide_false, reduceIte, and_self, Bool.false_eq_true, none_c h, aload_one h.cells] <;> with_reducible rfl)))) | with_reducible apply cond_t | with_reducible apply cond_f))
  exact ⟨rfl, rfl⟩

theorem fuse_c {n lim : Nat} (h : DiskAt M H b m D) (hMb : M b) (hlb : lim ≤ b) (x : Int) :
    ∃ v H', Ahs.runT ap (n + 2) lim (.fn 42) [ptr b, .int .i64 x] H = some (v, H') ∧ DiskAt M H' b m (fuseD D x) ∧ Fram (dft b m) H H' := by
  refine F42_run a42 ?_
  unfold F42 F42_j0
  have hmx : aminmax true [.int .i64 x, .int .i64 0] = some (.int .i64 ((x.toNat : Nat) : Int)) := by
    rw [max_int]; congr 2; omega
  have st : astore lim H 1 (.ptr (some (b, 2))) (.int .i64 ((x.toNat : Nat) : Int)) = some (H.set b (.cells [.map (some m), .bool D.off, .int .i64 ((x.toNat : Nat) : Int)])) := astore_cell h.cells hlb rfl rfl (by show 2 < 3; omega) rfl
  (repeat (first | (with_reducible apply bindP_intro; (focus (first | with_reducible rfl | (simp only [walkR, get0, getS, Nat.zero_add, Nat.add_zero, Bool.not_true, Bool.not_false, decide_true, decide_false, reduceIte, and_self, Bool.false_eq_true, none_c h, hmx, st] <;> with_reducible rfl)))) | (with_reducible apply bind2_intro; (focus (first | with_reducible rfl | (simp only [walkR, get0, getS, Nat.zero_add, Nat.add_zero, Bool.not_true, Bool.not_false, decide_true, decide_false, reduceIte, and_self, Bool.false_eq_true, none_c h, hmx, st] <;> with_reducible rfl)))) | with_reducible apply cond_t | with_reducible apply cond_f))
  exact ⟨h.setb (D' := fuseD D x) hMb rfl, .set (.inl rfl)⟩

theorem start_c {n lim : Nat} (h : DiskAt M H b m D) (hMb : M b) (hlb : lim ≤ b) :
    ∃ v H', Ahs.runT ap (n + 2) lim (.fn 41) [ptr b] H = some (v, H') ∧ DiskAt M H' b m (startD D) ∧ Fram (dft b m) H H' := by
  refine F41_run a41 ?_
  unfold F41 F41_j0
  have st : astore lim H 1 (.ptr (some (b, 1))) (.bool false) = some (H.set b (.cells [.map (some m), .bool false, .int .i64 (D.fuse : Int)])) := astore_cell h.cells hlb rfl rfl (by show 1 < 3; omega) rfl
  (repeat (first | (with_reducible apply bindP_intro; (focus (first | with_reducible rfl | (simp only [walkR, get0, getS, Nat.zero_add, Nat.add_zero, Bool.not_true, Bool.not_false, decide_true, decide_false, reduceIte, and_self, Bool.false_eq_true, none_c h, st] <;> with_reducible rfl)))) | (with_reducible apply bind2_intro; (focus (first | with_reducible rfl | (simp only [walkR, get0, getS, Nat.zero_add, Nat.add_zero, Bool.not_true, Bool.not_false, decide_true, decide_false, reduceIte, and_self, Bool.false_eq_true, none_c h, st] <;> with_reducible rfl)))) | with_reducible apply cond_t | with_reducible apply cond_f))
  exact ⟨h.setb (D' := startD D) hMb rfl, .set (.inl rfl)⟩

/-- A slice of strings that is looked at. -/
def SlS (H : Heap) (s : AVal) (ns : List Str) : Prop := Sl H 1 s (encR ns) ∧ ∀ c, slBlk s = some c → c < H.next

theorem list_c {n lim K : Nat} (h : DiskAt M H b m D) (hD : DskOK K D) (hK : K ≤ 1000000000) :
    ∃ v H', Ahs.runT ap (n + 1) lim (.fn 52) [ptr b] H = some (v, H') ∧ Sl H' 1 v (encR (D.fs.map (·.1))) ∧ Keeps2 H H' ∧ ∀ c, slBlk v = some c → H.next ≤ c := by
  obtain ⟨vs, clk, h1, h2, h3⟩ := h.map.ex
  have hks : ∀ vs : List (Str × AVal), keyStrs (encE strK vs) = some (vs.map (·.1)) := by
    intro vs
    induction vs with
    | nil => rfl
    | cons x xs ih =>
      show (keyStrs (encE strK xs)).map (x.1 :: ·) = _
      rw [ih]; rfl
  have hld : aload H none (.ptr (some (b, 0))) = some (.map (some m)) := by rw [aload_one h.cells]; rfl
  have hsort : sortS (vs.map (·.1)) = D.fs.map (·.1) := by
    have hp : (sortS (vs.map (·.1))).Perm (D.fs.map (·.1)) := (sortS_perm _).trans h2
    have hs := sortS_sorted (vs.map (·.1))
    have ha := asc_keys.1 hD.asc
    refine List.Perm.eq_of_pairwise (le := fun a b => a ≤ b) (fun a b _ _ h1 h2 => List.le_antisymm h1 h2) hs (ha.imp fun h => List.le_of_lt h) hp
  have hnm : ∀ k ∈ vs.map (·.1), k.length ≤ 140737488355328 := by
    intro k hk
    have := hD.names k (h2.mem_iff.1 hk)
    unfold rightN at this
    simp only [Bool.and_eq_true, decide_eq_true_eq] at this
    omega
  have hlen : (vs.map (·.1)).length ≤ 1000000000 := by
    have := hD.len
    rw [h2.length_eq]; simp; omega
  have hno : namesO H (vs.map (·.1)) = if vs.map (·.1) = [] then some (.sl none 0 (.ex 0), H) else some (.sl (some (H.next, 0)) (sortS (vs.map (·.1))).length .un, H.push (.cells ((sortS (vs.map (·.1))).map .str))) := by
    unfold namesO
    rw [if_pos]
    simp only [Bool.and_eq_true, List.all_eq_true, Nat.ble_eq]
    exact ⟨hnm, hlen⟩
  have hg : gList lim [ptr b] H = namesO H (vs.map (·.1)) := by
    simp only [gList, hld, mapEs, h1, Option.bind_some, hks]
  rw [q52, hg, hno]
  by_cases h0 : vs.map (·.1) = []
  · rw [if_pos h0]
    refine ⟨_, _, rfl, ?_, .refl _, fun c hc => by simp [slBlk] at hc⟩
    rw [← hsort, h0]
    exact Sl.nil H 1
  · rw [if_neg h0]
    refine ⟨_, _, rfl, ?_, .push _ _, fun c hc => by simp [slBlk] at hc; omega⟩
    rw [hsort]
    have hfl : ∀ ns : List Str, (encR ns).flatten = ns.map .str := by
      intro ns
      induction ns with
      | nil => rfl
      | cons a l ih => show AVal.str a :: (encR l).flatten = _; rw [ih]; rfl
    refine ⟨.inr ⟨H.next, 0, .un, _, by rw [encR_len], trivial, cells_push_new H _, ?_, ?_⟩, fun x hx => ?_⟩
    · rw [encR_len]; simp
    · rw [encR_len, List.drop_zero, hfl, List.take_of_length_le (by simp)]
    · unfold encR at hx
      obtain ⟨r, _, rfl⟩ := List.mem_map.1 hx
      rfl

theorem new_c {n lim : Nat} (hl : lim ≤ H.next) : ∃ b m H', Ahs.runT ap (n + 1) lim (.fn 39) [] H = some (ptr b, H') ∧ DiskAt M H' b m newD ∧ Keeps2 H H' ∧ H.next ≤ b ∧ H.next ≤ m ∧ b < H'.next ∧ m < H'.next := by
  have hb : buildO z5cbe97 [(0, 1, .map (some H.next))] = some (.agg [.map (some H.next), .bool false, .int .i64 0]) := rfl
  have ho : (([.map (some H.next), .bool false, .int .i64 0] : List AVal).all fun v => v.one) = true := rfl
  refine ⟨H.next + 1, H.next, (H.push (.map [] ⟨0, []⟩)).push (.cells [.map (some H.next), .bool false, .int .i64 0]), ?_, ⟨?_, ?_⟩, (Keeps2.push _ _).trans (.push _ _), by omega, Nat.le_refl _, by rw [Heap.next_push, Heap.next_push]; omega, by rw [Heap.next_push, Heap.next_push]; omega⟩
  · refine run_eqn (F39_run a39 ?_)
    unfold F39
    (repeat (first | (with_reducible apply bindP_intro; (focus (first | with_reducible rfl | (simp only [walkR, get0, getS, Nat.zero_add, Nat.add_zero, Bool.not_true, Bool.not_false, decide_true, decide_false, reduceIte, and_self, Bool.false_eq_true, hintOK, hb, ho] <;> with_reducible rfl)))) | (with_reducible apply bind2_intro; (focus (first | with_reducible rfl | (simp only [walkR, get0, getS, Nat.zero_add, Nat.add_zero, Bool.not_true, Bool.not_false, decide_true, decide_false, reduceIte, and_self, Bool.false_eq_true, hintOK, hb, ho] <;> with_reducible rfl)))) | with_reducible apply cond_t | with_reducible apply cond_f))
    exact ⟨by rw [Heap.next_push], rfl⟩
  · have : (H.push (.map [] ⟨0, []⟩)).next = H.next + 1 := Heap.next_push _ _
    rw [← this]
    exact cells_push_new _ _
  · exact (MapAt.new (kk := strK) (H := H) (FilAt M H)).mono (by rw [Heap.get_push_old _ _ _ (by rw [Heap.next_push]; omega)]) fun _ _ _ h => by simp [newD] at h

end
end Go.Proofs.Ytjflpnahjooffaa.disk
