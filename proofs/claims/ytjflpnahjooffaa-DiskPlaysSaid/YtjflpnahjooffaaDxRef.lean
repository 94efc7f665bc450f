/- The document's disk: what its functions come to. First part. -/
import Derived.Test.YtjflpnahjooffaaDxCounts
set_option maxRecDepth 100000
set_option linter.unusedVariables false
set_option linter.unusedSimpArgs false
namespace Go.Proofs.Ytjflpnahjooffaa.disk
open Go.Ahs

abbrev rfV (n : Str) (rs : AVal) (syn : Int) (c : Bool) (t : Str) : List AVal := [.str n, rs, .int .i64 syn, .bool c, .str t]
theorem rfV_one {rs : AVal} (h : rs.one = true) (n : Str) (syn : Int) (c : Bool) (t : Str) : ((rfV n rs syn c t).all fun v => v.one) = true := by
  simp only [List.all_cons, List.all_nil, h, Bool.and_true]; rfl

/-- A file of the document's; X: the blocks that are written. -/
def RfAt (X : Nat → Prop) (H : Heap) (x : List AVal) (p : Str × Fil) : Prop := ∃ rs, x = rfV p.1 rs p.2.syn p.2.cut p.2.torn ∧ Fz H 1 rs (encR p.2.recs) ∧ ∀ c, slBlk rs = some c → ¬ X c
structure RfL (X : Nat → Prop) (H : Heap) (xs : List (List AVal)) (fs : Fs) : Prop where
  len : xs.length = fs.length
  at' : ∀ (i : Nat) x p, xs[i]? = some x → fs[i]? = some p → RfAt X H x p

structure RefAt (X : Nat → Prop) (H : Heap) (b bv : Nat) (sl : AVal) (W : Dsk) : Prop where
  cells : H.cells b = some [sl, .bool W.off, .int .i64 (W.fuse : Int)]
  own : ∃ xs, Own H 5 sl xs bv ∧ RfL X H xs W.fs
  ne : bv ≠ b

section
variable {X : Nat → Prop} {H : Heap} {b bv : Nat} {sl : AVal} {W : Dsk}

theorem RfAt.frame {S : Nat → Prop} {H' : Heap} {x : List AVal} {p : Str × Fil} (h : RfAt X H x p) (hf : Fram S H H') (hs : ∀ c, S c → X c) : RfAt X H' x p := by
  obtain ⟨s, h1, h2, h3⟩ := h
  exact ⟨s, h1, h2.frame hf (fun c hc e => h3 c hc (hs c e)), h3⟩
theorem RfAt.keep {H' : Heap} {x : List AVal} {p : Str × Fil} (h : RfAt X H x p) (hk : Keeps2 H H') : RfAt X H' x p := h.frame (S := fun _ => False) (.of hk) fun _ e => e.elim
theorem RfAt.more {X' : Nat → Prop} {x : List AVal} {p : Str × Fil} (h : RfAt X H x p) (hX : ∀ c, c < H.next → X' c → X c) : RfAt X' H x p := by
  obtain ⟨s, h1, h2, h3⟩ := h
  exact ⟨s, h1, h2, fun c hc e => h3 c hc (hX c (h2.lt c hc) e)⟩
theorem RfL.frame {S : Nat → Prop} {H' : Heap} {xs : List (List AVal)} {fs : Fs} (h : RfL X H xs fs) (hf : Fram S H H') (hs : ∀ c, S c → X c) : RfL X H' xs fs := ⟨h.len, fun i x p e e' => (h.at' i x p e e').frame hf hs⟩
theorem RfL.keep {H' : Heap} {xs : List (List AVal)} {fs : Fs} (h : RfL X H xs fs) (hk : Keeps2 H H') : RfL X H' xs fs := h.frame (S := fun _ => False) (.of hk) fun _ e => e.elim
theorem RfL.more {X' : Nat → Prop} {xs : List (List AVal)} {fs : Fs} (h : RfL X H xs fs) (hX : ∀ c, c < H.next → X' c → X c) : RfL X' H xs fs := ⟨h.len, fun i x p e e' => (h.at' i x p e e').more hX⟩
theorem RfL.nil : RfL X H [] [] := ⟨rfl, fun i x p e _ => by simp at e⟩
theorem RfL.snoc {xs : List (List AVal)} {fs : Fs} (h : RfL X H xs fs) {x : List AVal} {p : Str × Fil} (hx : RfAt X H x p) : RfL X H (xs ++ [x]) (fs ++ [p]) := by
  refine ⟨by simp [h.len], fun i y q e e' => ?_⟩
  rcases Nat.lt_or_ge i xs.length with g | g
  · rw [List.getElem?_append_left g] at e
    rw [List.getElem?_append_left (by rw [← h.len]; exact g)] at e'
    exact h.at' i y q e e'
  · rw [List.getElem?_append_right g] at e
    rw [List.getElem?_append_right (by rw [← h.len]; exact g), ← h.len] at e'
    cases hi : i - xs.length with
    | zero => rw [hi] at e e'; simp at e e'; subst e e'; exact hx
    | succ k => rw [hi] at e; simp at e

theorem RfL.get {xs : List (List AVal)} {fs : Fs} (h : RfL X H xs fs) {i : Nat} {p : Str × Fil} (hp : fs[i]? = some p) : ∃ x, xs[i]? = some x ∧ RfAt X H x p := by
  have hi : i < fs.length := (List.getElem?_eq_some_iff.1 hp).1
  have hi' : i < xs.length := by rw [h.len]; exact hi
  have hx : xs[i]? = some xs[i] := List.getElem?_eq_getElem hi'
  exact ⟨_, hx, h.at' i _ p hx hp⟩

theorem rfAt_cells {x : List AVal} {p : Str × Fil} (h : RfAt X H x p) : x.length = 5 ∧ (x.all fun v => v.one) = true := by
  obtain ⟨s, rfl, h2, _⟩ := h
  exact ⟨rfl, rfV_one h2.one.1 _ _ _ _⟩

theorem RefAt.ltb (h : RefAt X H b bv sl W) : b < H.next := Heap.cells_lt h.cells
theorem RefAt.sl' (h : RefAt X H b bv sl W) : ∃ xs, Sl H 5 sl xs ∧ RfL X H xs W.fs := by
  obtain ⟨xs, h1, h2⟩ := h.own
  exact ⟨xs, h1.sl, h2⟩
theorem RefAt.len (h : RefAt X H b bv sl W) : alen false sl = some (.int .i64 (W.fs.length : Int)) := by
  obtain ⟨xs, h1, h2⟩ := h.sl'
  rw [h1.len, h2.len]

theorem RefAt.frame {S : Nat → Prop} {H' : Heap} (h : RefAt X H b bv sl W) (hf : Fram S H H') (hb : ¬ S b) (hv : ¬ S bv) (hs : ∀ c, S c → X c) : RefAt X H' b bv sl W := by
  obtain ⟨xs, h1, h2⟩ := h.own
  exact ⟨hf.cells h.cells hb, ⟨xs, h1.frame hf hv, h2.frame hf hs⟩, h.ne⟩
theorem RefAt.keep {H' : Heap} (h : RefAt X H b bv sl W) (hk : Keeps2 H H') : RefAt X H' b bv sl W := h.frame (S := fun _ => False) (.of hk) (fun e => e) (fun e => e) fun _ e => e.elim
theorem RefAt.more {X' : Nat → Prop} (h : RefAt X H b bv sl W) (hX : ∀ c, c < H.next → X' c → X c) : RefAt X' H b bv sl W := by
  obtain ⟨xs, h1, h2⟩ := h.own
  exact ⟨h.cells, ⟨xs, h1, h2.more hX⟩, h.ne⟩

/-- The i-th file. -/
theorem RefAt.at' (h : RefAt X H b bv sl W) {i : Nat} {p : Str × Fil} (hp : W.fs[i]? = some p) : ∃ q o bq rs, aindexAddr none 5 sl (.int .i64 (i : Int)) = some q ∧ q = .ptr (some (bq, o)) ∧ aload H (some 5) q = some (.agg (rfV p.1 rs p.2.syn p.2.cut p.2.torn)) ∧ RfAt X H (rfV p.1 rs p.2.syn p.2.cut p.2.torn) p ∧
    ∀ f, f < 5 → aload H none (.ptr (some (bq, o + f))) = (rfV p.1 rs p.2.syn p.2.cut p.2.torn)[f]? := by
  obtain ⟨xs, h1, h2⟩ := h.sl'
  obtain ⟨x, hx, ha⟩ := h2.get hp
  have hi : i < xs.length := (List.getElem?_eq_some_iff.1 hx).1
  have ha' := ha
  obtain ⟨rs, rfl, g⟩ := ha
  obtain ⟨bq, o, cs, q1, q2, q3, q4, q5⟩ := h1.cut hx
  refine ⟨slot sl (i * 5), o, bq, rs, h1.addr hi, q1, h1.load hx, ha', fun f hf => ?_⟩
  have := h1.loadf hx hf
  rw [q2] at this
  exact this

theorem r7right_c {n lim : Nat} {s : Str} : Ahs.runT ap (n + 1) lim (.fn 111) [.str s] H = some (.bool (rightN s), H) := by
  refine run_eqn (F111_run a111 ?_)
  unfold F111 rightN
  by_cases h0 : s = []
  · subst h0
    have he : decide ((1 : Int) ≤ ((([] : Str).length : Nat) : Int)) = false := rfl
    (repeat (first | (with_reducible apply bindP_intro; (focus (first | with_reducible rfl | (simp only [walkR, get0, getS, Nat.zero_add, Nat.add_zero, Bool.not_true, Bool.not_false, decide_true, decide_false, reduceIte, and_self, Bool.false_eq_true, he] <;> with_reducible rfl)))) | (with_reducible apply bind2_intro; (focus (first | with_reducible rfl | (simp only [walkR, get0, getS, Nat.zero_add, Nat.add_zero, Bool.not_true, Bool.not_false, decide_true, decide_false, reduceIte, and_self, Bool.false_eq_true, he] <;> with_reducible rfl)))) | with_reducible apply cond_t | with_reducible apply cond_f))
    exact ⟨rfl, rfl⟩
  · have hd : decide (s ≠ []) = true := dT h0
    have hp : 0 < s.length := List.length_pos_iff.2 h0
    have he : decide ((1 : Int) ≤ (s.length : Int)) = true := dT (by omega)
    have hl : decide ((s.length : Int) ≤ 32) = decide (s.length ≤ 32) := by
      rw [Bool.eq_iff_iff]; simp; omega
    (repeat (first | (with_reducible apply bindP_intro; (focus (first | with_reducible rfl | (simp only [walkR, get0, getS, Nat.zero_add, Nat.add_zero, Bool.not_true, Bool.not_false, decide_true, decide_false, reduceIte, and_self, Bool.false_eq_true, he, hl] <;> with_reducible rfl)))) | (with_reducible apply bind2_intro; (focus (first | with_reducible rfl | (simp only [walkR, get0, getS, Nat.zero_add, Nat.add_zero, Bool.not_true, Bool.not_false, decide_true, decide_false, reduceIte, and_self, Bool.false_eq_true, he, hl] <;> with_reducible rfl)))) | with_reducible apply cond_t | with_reducible apply cond_f))
    rw [hd]
    exact ⟨rfl, rfl⟩

theorem find_loop {n lim N : Nat} {K : AVal → Heap → Prop} {name : Str} (h : RefAt X H b bv sl W) (hlen : W.fs.length < 1000000000)
    (hK : ∀ r : Int, (lk W.fs name = none → r = -1) → (∀ f, lk W.fs name = some f → ∃ i : Nat, r = (i : Int) ∧ W.fs[i]? = some (name, f)) → K (.int .i64 r) H) :
    ∀ (j i : Nat), W.fs.length < j + i → i ≤ W.fs.length → lk W.fs name = lk (W.fs.drop i) name → F112_l0 (Ahs.runT ap n) lim N K j (ptr b) (.str name) (.int .i64 (i : Int)) H
  | 0, i, hj, hi, _ => by exfalso; omega
  | j + 1, i, hj, hi, hl => by
    show F112_s0 _ _ _ _ (F112_l0 _ _ _ _ j) _ _ _ _
    unfold F112_s0
    by_cases hil : i < W.fs.length
    · have hd : decide ((i : Int) < (W.fs.length : Int)) = true := dT (by omega)
      have hp : W.fs[i]? = some W.fs[i] := List.getElem?_eq_getElem hil
      rw [List.drop_eq_getElem_cons hil] at hl
      generalize W.fs[i] = p at hp hl
      obtain ⟨q, o, bq, rs, e1, rfl, e2, e3, e4⟩ := h.at' hp
      have e4 : aload H none (.ptr (some (bq, o))) = some (.str p.1) := e4 0 (by omega)
      have hi1 : IntKind.i64.wrap ((i : Int) + 1) = ((i + 1 : Nat) : Int) := i64_succ (by omega)
      by_cases hpn : p.1 = name
      · have hb : (p.1 == name) = true := by simpa using hpn
        (repeat (first | (with_reducible apply bindP_intro; (focus (first | with_reducible rfl | (simp only [walkR, get0, getS, Nat.zero_add, Nat.add_zero, Bool.not_true, Bool.not_false, decide_true, decide_false, reduceIte, and_self, Bool.false_eq_true, aload_one h.cells, h.len, hd, e1, e4, hb] <;> with_reducible rfl)))) | (with_reducible apply bind2_intro; (focus (first | with_reducible rfl | (simp only [walkR, get0, getS, Nat.zero_add, Nat.add_zero, Bool.not_true, Bool.not_false, decide_true, decide_false, reduceIte, and_self, Bool.false_eq_true, aload_one h.cells, h.len, hd, e1, e4, hb] <;> with_reducible rfl)))) | with_reducible apply cond_t | with_reducible apply cond_f))
        have hlf : lk W.fs name = some p.2 := by rw [hl]; simp [lk, hpn]
        refine hK _ (fun e => by rw [hlf] at e; simp at e) fun f hf => ⟨i, rfl, ?_⟩
        rw [hlf] at hf
        simp only [Option.some.injEq] at hf
        subst hf
        rw [hp, ← hpn]
      · have hb : (p.1 == name) = false := by simpa using hpn
        (repeat (first | (with_reducible apply bindP_intro; (focus (first | with_reducible rfl | (simp only [walkR, get0, getS, Nat.zero_add, Nat.add_zero, Bool.not_true, Bool.not_false, decide_true, decide_false, reduceIte, and_self, Bool.false_eq_true, aload_one h.cells, h.len, hd, e1, e4, hb, hi1] <;> with_reducible rfl)))) | (with_reducible apply bind2_intro; (focus (first | with_reducible rfl | (simp only [walkR, get0, getS, Nat.zero_add, Nat.add_zero, Bool.not_true, Bool.not_false, decide_true, decide_false, reduceIte, and_self, Bool.false_eq_true, aload_one h.cells, h.len, hd, e1, e4, hb, hi1] <;> with_reducible rfl)))) | with_reducible apply cond_t | with_reducible apply cond_f))
        refine find_loop h hlen hK j (i + 1) (by omega) (by omega) ?_
        rw [hl]
        simp [lk, hpn]
    · have hd : decide ((i : Int) < (W.fs.length : Int)) = false := dF (by omega)
      (repeat (first | (with_reducible apply bindP_intro; (focus (first | with_reducible rfl | (simp only [walkR, get0, getS, Nat.zero_add, Nat.add_zero, Bool.not_true, Bool.not_false, decide_true, decide_false, reduceIte, and_self, Bool.false_eq_true, aload_one h.cells, h.len, hd] <;> with_reducible rfl)))) | (with_reducible apply bind2_intro; (focus (first | with_reducible rfl | (simp only [walkR, get0, getS, Nat.zero_add, Nat.add_zero, Bool.not_true, Bool.not_false, decide_true, decide_false, reduceIte, and_self, Bool.false_eq_true, aload_one h.cells, h.len, hd] <;> with_reducible rfl)))) | with_reducible apply cond_t | with_reducible apply cond_f))
      unfold F112_j0
      rw [List.drop_eq_nil_of_le (by omega)] at hl
      have hl : lk W.fs name = none := hl
      exact hK _ (fun _ => rfl) (fun f hf => by rw [hl] at hf; simp at hf)

theorem find_c {n lim : Nat} (h : RefAt X H b bv sl W) (hlen : W.fs.length < n) (hl2 : W.fs.length < 1000000000) (name : Str) :
    ∃ r : Int, Ahs.runT ap (n + 1) lim (.fn 112) [ptr b, .str name] H = some (.int .i64 r, H) ∧ (lk W.fs name = none → r = -1) ∧ (∀ f, lk W.fs name = some f → ∃ i : Nat, r = (i : Int) ∧ W.fs[i]? = some (name, f)) := by
  have : ∃ v H', Ahs.runT ap (n + 1) lim (.fn 112) [ptr b, .str name] H = some (v, H') ∧ ∃ r : Int, v = .int .i64 r ∧ H' = H ∧ (lk W.fs name = none → r = -1) ∧ (∀ f, lk W.fs name = some f → ∃ i : Nat, r = (i : Int) ∧ W.fs[i]? = some (name, f)) := by
    refine F112_run a112 ?_
    unfold F112
    exact find_loop h hl2 (fun r h1 h2 => ⟨r, rfl, rfl, h1, h2⟩) n 0 (by omega) (Nat.zero_le _) (by simp)
  obtain ⟨v, H', h1, r, rfl, rfl, h2, h3⟩ := this
  exact ⟨r, h1, h2, h3⟩

theorem goes_c {n lim : Nat} (h : RefAt X H b bv sl W) (hXb : X b) (hlb : lim ≤ b) (ho : W.off = false) (hf : W.fuse < 9223372036854775808) :
    ∃ H', Ahs.runT ap (n + 1) lim (.fn 113) [ptr b] H = some (.bool (!(burn W).off), H') ∧ RefAt X H' b bv sl (burn W) ∧ Fram (fun c => c = b) H H' := by
  have main : ∃ v H', Ahs.runT ap (n + 1) lim (.fn 113) [ptr b] H = some (v, H') ∧ v = .bool (!(burn W).off) ∧ RefAt X H' b bv sl (burn W) ∧ Fram (fun c => c = b) H H' := by
    refine F113_run a113 ?_
    unfold F113
    have hlt := h.ltb
    have setb : ∀ W' : Dsk, W'.fs = W.fs → RefAt X (H.set b (.cells [sl, .bool W'.off, .int .i64 (W'.fuse : Int)])) b bv sl W' := by
      intro W' e
      obtain ⟨xs, h1, h2⟩ := h.own
      exact ⟨cells_set_same hlt, ⟨xs, h1.frame (Fram.set (S := fun c => c = b) rfl) h.ne, by rw [e]; exact h2.frame (Fram.set (S := fun c => c = b) rfl) fun c e => by rw [e]; exact hXb⟩, h.ne⟩
    by_cases h0 : W.fuse = 0
    · have hb : burn W = W := by unfold burn; rw [if_pos h0]
      have d1 : (((W.fuse : Nat) : Int) == 1) = false := by rw [h0]; rfl
      have d2 : decide ((0 : Int) < ((W.fuse : Nat) : Int)) = false := dF (by omega)
      (repeat (first | (with_reducible apply bindP_intro; (focus (first | with_reducible rfl | (simp only [walkR, get0, getS, Nat.zero_add, Nat.add_zero, Bool.not_true, Bool.not_false, decide_true, decide_false, reduceIte, and_self, Bool.false_eq_true, aload_one h.cells, d1] <;> with_reducible rfl)))) | (with_reducible apply bind2_intro; (focus (first | with_reducible rfl | (simp only [walkR, get0, getS, Nat.zero_add, Nat.add_zero, Bool.not_true, Bool.not_false, decide_true, decide_false, reduceIte, and_self, Bool.false_eq_true, aload_one h.cells, d1] <;> with_reducible rfl)))) | with_reducible apply cond_t | with_reducible apply cond_f))
      unfold F113_j1 F113_j0
      (repeat (first | (with_reducible apply bindP_intro; (focus (first | with_reducible rfl | (simp only [walkR, get0, getS, Nat.zero_add, Nat.add_zero, Bool.not_true, Bool.not_false, decide_true, decide_false, reduceIte, and_self, Bool.false_eq_true, aload_one h.cells, d2] <;> with_reducible rfl)))) | (with_reducible apply bind2_intro; (focus (first | with_reducible rfl | (simp only [walkR, get0, getS, Nat.zero_add, Nat.add_zero, Bool.not_true, Bool.not_false, decide_true, decide_false, reduceIte, and_self, Bool.false_eq_true, aload_one h.cells, d2] <;> with_reducible rfl)))) | with_reducible apply cond_t | with_reducible apply cond_f))
      rw [hb]
      exact ⟨rfl, h, .refl _ _⟩
    · have hb : burn W = { W with fuse := W.fuse - 1, off := decide (W.fuse = 1) } := by unfold burn; rw [if_neg h0]
      have d2 : decide ((0 : Int) < ((W.fuse : Nat) : Int)) = true := dT (by omega)
      have hw : IntKind.i64.wrap (((W.fuse : Nat) : Int) - 1) = ((W.fuse - 1 : Nat) : Int) := by rw [wrap_i64 (by omega) (by omega)]; omega
      have fin := setb (burn W) (burn_fs W)
      rw [hb] at fin ⊢
      by_cases h1 : W.fuse = 1
      · have d1 : (((W.fuse : Nat) : Int) == 1) = true := by rw [h1]; rfl
        have s1 : astore lim H 1 (.ptr (some (b, 1))) (.bool true) = some (H.set b (.cells [sl, .bool true, .int .i64 (W.fuse : Int)])) := astore_cell h.cells hlb rfl rfl (by show 1 < 3; omega) rfl
        have c1 : (H.set b (.cells [sl, .bool true, .int .i64 (W.fuse : Int)])).cells b = some [sl, .bool true, .int .i64 (W.fuse : Int)] := cells_set_same hlt
        have s2 : astore lim (H.set b (.cells [sl, .bool true, .int .i64 (W.fuse : Int)])) 1 (.ptr (some (b, 2))) (.int .i64 ((W.fuse - 1 : Nat) : Int)) = some (H.set b (.cells [sl, .bool true, .int .i64 ((W.fuse - 1 : Nat) : Int)])) := by
          rw [astore_cell (cs' := [sl, .bool true, .int .i64 ((W.fuse - 1 : Nat) : Int)]) c1 hlb rfl rfl (by show 2 < 3; omega) rfl]
          simp only [Heap.set, Tr.set_set]
        have c2 : (H.set b (.cells [sl, .bool true, .int .i64 ((W.fuse - 1 : Nat) : Int)])).cells b = some [sl, .bool true, .int .i64 ((W.fuse - 1 : Nat) : Int)] := cells_set_same hlt
        have e1 : decide (W.fuse = 1) = true := dT h1
        rw [e1] at fin ⊢
        (repeat (first | (with_reducible apply bindP_intro; (focus (first | with_reducible rfl | (simp only [walkR, get0, getS, Nat.zero_add, Nat.add_zero, Bool.not_true, Bool.not_false, decide_true, decide_false, reduceIte, and_self, Bool.false_eq_true, aload_one h.cells, d1, s1] <;> with_reducible rfl)))) | (with_reducible apply bind2_intro; (focus (first | with_reducible rfl | (simp only [walkR, get0, getS, Nat.zero_add, Nat.add_zero, Bool.not_true, Bool.not_false, decide_true, decide_false, reduceIte, and_self, Bool.false_eq_true, aload_one h.cells, d1, s1] <;> with_reducible rfl)))) | with_reducible apply cond_t | with_reducible apply cond_f))
        unfold F113_j1 F113_j0
        (repeat (first | (with_reducible apply bindP_intro; (focus (first | with_reducible rfl | (simp only [walkR, get0, getS, Nat.zero_add, Nat.add_zero, Bool.not_true, Bool.not_false, decide_true, decide_false, reduceIte, and_self, Bool.false_eq_true, aload_one c1, d2, hw, s2, aload_one c2] <;> with_reducible rfl)))) | (with_reducible apply bind2_intro; (focus (first | with_reducible rfl | (simp only [walkR, get0, getS, Nat.zero_add, Nat.add_zero, Bool.not_true, Bool.not_false, decide_true, decide_false, reduceIte, and_self, Bool.false_eq_true, aload_one c1, d2, hw, s2, aload_one c2] <;> with_reducible rfl)))) | with_reducible apply cond_t | with_reducible apply cond_f))
        exact ⟨rfl, fin, .set rfl⟩
      · have d1 : (((W.fuse : Nat) : Int) == 1) = false := by rw [Bool.eq_false_iff]; simp; omega
        have s2 : astore lim H 1 (.ptr (some (b, 2))) (.int .i64 ((W.fuse - 1 : Nat) : Int)) = some (H.set b (.cells [sl, .bool W.off, .int .i64 ((W.fuse - 1 : Nat) : Int)])) := astore_cell h.cells hlb rfl rfl (by show 2 < 3; omega) rfl
        have c2 : (H.set b (.cells [sl, .bool W.off, .int .i64 ((W.fuse - 1 : Nat) : Int)])).cells b = some [sl, .bool W.off, .int .i64 ((W.fuse - 1 : Nat) : Int)] := cells_set_same hlt
        have e1 : decide (W.fuse = 1) = false := dF h1
        rw [e1] at fin ⊢
        rw [ho] at s2 c2
        (repeat (first | (with_reducible apply bindP_intro; (focus (first | with_reducible rfl | (simp only [walkR, get0, getS, Nat.zero_add, Nat.add_zero, Bool.not_true, Bool.not_false, decide_true, decide_false, reduceIte, and_self, Bool.false_eq_true, aload_one h.cells, d1] <;> with_reducible rfl)))) | (with_reducible apply bind2_intro; (focus (first | with_reducible rfl | (simp only [walkR, get0, getS, Nat.zero_add, Nat.add_zero, Bool.not_true, Bool.not_false, decide_true, decide_false, reduceIte, and_self, Bool.false_eq_true, aload_one h.cells, d1] <;> with_reducible rfl)))) | with_reducible apply cond_t | with_reducible apply cond_f))
        unfold F113_j1 F113_j0
        (repeat (first | (with_reducible apply bindP_intro; (focus (first | with_reducible rfl | (simp only [walkR, get0, getS, Nat.zero_add, Nat.add_zero, Bool.not_true, Bool.not_false, decide_true, decide_false, reduceIte, and_self, Bool.false_eq_true, aload_one h.cells, d2, hw, s2, aload_one c2] <;> with_reducible rfl)))) | (with_reducible apply bind2_intro; (focus (first | with_reducible rfl | (simp only [walkR, get0, getS, Nat.zero_add, Nat.add_zero, Bool.not_true, Bool.not_false, decide_true, decide_false, reduceIte, and_self, Bool.false_eq_true, aload_one h.cells, d2, hw, s2, aload_one c2] <;> with_reducible rfl)))) | with_reducible apply cond_t | with_reducible apply cond_f))
        exact ⟨rfl, fin, .set rfl⟩
  obtain ⟨v, H', h1, rfl, h2⟩ := main
  exact ⟨H', h1, h2⟩

/-! ## The list of files is made anew -/

/-- One file more on a list. -/
theorem out_snoc {lim : Nat} {H H0 : Heap} {out : AVal} {xs : List (List AVal)} {bo : Nat} {x : List AVal} (ho : Own H 5 out xs bo) (h5 : x.length = 5) (h1 : (x.all fun v => v.one) = true) (hbo : slBlk out = some bo → H0.next ≤ bo) (hl : lim ≤ H0.next) (k0 : Keeps2 H0 H) (hlen : xs.length ≤ 1000000000) :
    ∃ v' H' bo', fillV z11b428 [(0, 5, .agg x)] = some x ∧ aappend lim (H.push (.cells x)) z11b428 72 false out (.sl (some (H.next, 0)) 1 (.ex 1)) = some (v', H') ∧ Own H' 5 v' (xs ++ [x]) bo' ∧ Keeps2 H0 H' ∧ (slBlk v' = some bo' → H0.next ≤ bo') ∧ H0.next ≤ bo' ∧ bo' < H'.next := by
  have hfl : fillV z11b428 [(0, 5, .agg x)] = some x := by
    have hz : z11b428.length = 5 := rfl
    simp only [fillV, agg_cells, h5, hz]
    rw [if_pos ⟨trivial, Nat.le_refl 5⟩, put_all (by rw [h5, hz])]
  have kx : Keeps2 H (H.push (.cells x)) := .push _ _
  have hsrc : source (H.push (.cells x)) 5 (.sl (some (H.next, 0)) 1 (.ex 1)) = some (([x] : List (List AVal)).length, ([x] : List (List AVal)).flatten) := by
    rw [source_new H (by rw [h5]) (by decide)]; simp
  have hrm : room = 140737488355328 := rfl
  have ho' : Own (H.push (.cells x)) 5 out xs bo := by
    rcases ho.2 with ⟨rfl, h2⟩ | ⟨o, cs, rfl, h2, h3, h4⟩ | ⟨rfl, h4⟩
    · exact ⟨ho.1, .inl ⟨rfl, h2⟩⟩
    · exact ⟨ho.1, .inr (.inl ⟨o, cs, rfl, h2, kx.cells h3, h4⟩)⟩
    · exact ⟨ho.1, .inr (.inr ⟨rfl, kx.cells h4⟩)⟩
  obtain ⟨v', H', bo', e1, e2, e3, e4, e5⟩ := own_append (lim := lim) (zero := z11b428) (bytes := 72) ho' rfl (by omega) hsrc (fun y hy => by simp at hy; subst hy; exact ⟨h5, h1⟩) (by simp; omega) (by simp; omega) (fun hb => by have := hbo hb; omega)
  have hk : Keeps2 H0 H' := Fram.keeps (k0.trans kx) e3 (fun c hc e => by have := ho.blk c e; subst this; have := hbo e; omega)
  have hb' : H.next < bo' := by
    rcases e4 with ⟨_, h | h⟩ | h
    · simp at h
    · exact h.elim
    · rw [Heap.next_push] at h; omega
  have hsl : slBlk v' = some bo' := by
    rcases e2.2 with ⟨_, h2⟩ | ⟨o, cs, rfl, h2, _⟩ | ⟨rfl, _⟩
    · simp at h2
    · rfl
    · rfl
  exact ⟨v', H', bo', hfl, e1, by simpa using e2, hk, fun _ => by have := k0.next; omega, by have := k0.next; omega, e5 hsl⟩

end

/-! The document's disk: what its functions come to. Second part. -/

/-- What the loop of put makes. -/
def putL (n : Str) (f : Fil) : Fs → Bool → Fs → Fs
  | out, d, [] => if d = true then out else out ++ [(n, f)]
  | out, d, x :: xs => if x.1 = n then putL n f out d xs else if d = false ∧ n < x.1 then putL n f (out ++ [(n, f)] ++ [x]) true xs else putL n f (out ++ [x]) d xs

theorem putL_true {n : Str} {f : Fil} : ∀ {xs out : Fs}, (∀ y ∈ xs, y.1 ≠ n) → putL n f out true xs = out ++ xs
  | [], out, _ => by simp [putL]
  | x :: xs, out, h => by
    unfold putL
    rw [if_neg (h x (by simp)), if_neg (by simp), putL_true (fun y hy => h y (by simp [hy]))]
    simp
theorem putL_ins {n : Str} {f : Fil} : ∀ {xs out : Fs}, Asc xs → putL n f out false xs = out ++ ins n f xs
  | [], out, _ => by simp [putL, ins]
  | x :: xs, out, h => by
    have h1 := List.pairwise_cons.1 h
    unfold putL ins
    by_cases e : x.1 = n
    · rw [if_pos e]
      have hnl : ¬ n < x.1 := by rw [e]; exact str_irrefl n
      rw [if_neg hnl, if_pos e, putL_ins h1.2]
      congr 1
      cases xs with
      | nil => rfl
      | cons y ys =>
        have hy : n < y.1 := by have := h1.1 y (by simp); rw [e] at this; exact this
        unfold ins
        rw [if_pos hy]
    · rw [if_neg e]
      by_cases hl : n < x.1
      · rw [if_pos ⟨rfl, hl⟩, if_pos hl, putL_true]
        · simp
        · intro y hy e'
          have := h1.1 y hy
          rw [e'] at this
          exact str_irrefl _ (str_trans hl this)
      · rw [if_neg (by simp [hl]), if_neg hl, if_neg e, putL_ins h1.2]
        simp

section
variable {X : Nat → Prop} {H : Heap} {b bv : Nat} {sl : AVal} {W : Dsk}

theorem put_loop {n lim N : Nat} {K : AVal → Heap → Prop} {x3 : Nat} {nm : Str} {f : Fil} {rs : AVal} {H0 : Heap} (h : RefAt X H0 b bv sl W) (hx3 : x3 < H0.next) (hx : RfAt X H0 (rfV nm rs f.syn f.cut f.torn) (nm, f)) (c3 : H0.cells x3 = some (rfV nm rs f.syn f.cut f.torn)) (hlim : lim ≤ H0.next) (hlen : W.fs.length ≤ 100000000)
    (hK : ∀ out xs bo H', Own H' 5 out xs bo → Keeps2 H0 H' → RfL X H0 xs (putL nm f [] false W.fs) → (slBlk out = some bo → H0.next ≤ bo) → H0.next ≤ bo → bo < H'.next → F114_j0 (Ahs.runT ap n) lim N K (ptr b) out H') :
    ∀ (j i : Nat) (d : Bool) (out : AVal) (xs : List (List AVal)) (os : Fs) (bo : Nat) (H : Heap), W.fs.length < j + i → i ≤ W.fs.length → Keeps2 H0 H → Own H 5 out xs bo → RfL X H0 xs os → (slBlk out = some bo → H0.next ≤ bo) → (H0.next ≤ bo ∧ bo < H.next ∨ out = .sl none 0 (.ex 0)) → (d = true → os ≠ []) → os.length ≤ 2 * i → putL nm f [] false W.fs = putL nm f os d (W.fs.drop i) →
      F114_l0 (Ahs.runT ap n) lim N K j (ptr b) (ptr x3) out (.bool d) (.int .i64 (i : Int)) H
  | 0, i, d, out, xs, os, bo, H, hj, hi, _, _, _, _, _, _, _, _ => by exfalso; omega
  | j + 1, i, d, out, xs, os, bo, H, hj, hi, k0, ho, hR, hbo, hbn, hne, hol, hp => by
    show F114_s0 _ _ _ _ (F114_l0 _ _ _ _ j) _ _ _ _ _ _
    unfold F114_s0
    have hH := h.keep k0
    have hxl : xs.length ≤ 1000000000 := by rw [hR.len]; omega
    by_cases hil : i < W.fs.length
    · have hd : decide ((i : Int) < (W.fs.length : Int)) = true := dT (by omega)
      have hpp : W.fs[i]? = some W.fs[i] := List.getElem?_eq_getElem hil
      rw [List.drop_eq_getElem_cons hil] at hp
      generalize W.fs[i] = p at hpp hp
      obtain ⟨q, o, bq, rp, e1, rfl, e2, e3, e4⟩ := h.at' hpp
      have e4' := e4 0 (by omega)
      have e4 : aload H none (.ptr (some (bq, o))) = some (.str p.1) := aload_keep k0 e4'
      have hi1 : IntKind.i64.wrap ((i : Int) + 1) = ((i + 1 : Nat) : Int) := i64_succ (by omega)
      have c3' := k0.cells c3
      have lx3 : aload H none (.ptr (some (x3, 0))) = some (.str nm) := by rw [aload_one c3']; rfl
      have hxc := rfAt_cells hx
      have e3c := rfAt_cells e3
      -- the file is laid behind what there is
      have tail : ∀ (d' : Bool) (out' : AVal) (xs' : List (List AVal)) (os' : Fs) (bo' : Nat) (G : Heap), Keeps2 H0 G → Own G 5 out' xs' bo' → RfL X H0 xs' os' → (slBlk out' = some bo' → H0.next ≤ bo') → xs'.length ≤ 1000000000 → os'.length ≤ 2 * i + 1 → putL nm f [] false W.fs = putL nm f (os' ++ [p]) d' (W.fs.drop (i + 1)) →
          F114_j3 (Ahs.runT ap n) lim N K (F114_l0 (Ahs.runT ap n) lim N K j) (ptr b) (ptr x3) out' (.bool d') (.int .i64 (i : Int)) G := by
        intro d' out' xs' os' bo' G kG oG rG hb' hl' hl2 hp'
        unfold F114_j3
        obtain ⟨v', G2, bo2, a1, a2, a3, a4, a5, a6, a7⟩ := out_snoc (lim := lim) (H0 := H0) oG e3c.1 e3c.2 hb' hlim kG hl'
        have hG := h.keep kG
        (repeat (first | (with_reducible apply bindP_intro; (focus (first | with_reducible rfl | (simp only [walkR, get0, getS, Nat.zero_add, Nat.add_zero, Bool.not_true, Bool.not_false, decide_true, decide_false, reduceIte, and_self, Bool.false_eq_true, aload_one hG.cells, e1, aload_keep kG e2, a1, a2] <;> with_reducible rfl)))) | (with_reducible apply bind2_intro; (focus (first | with_reducible rfl | (simp only [walkR, get0, getS, Nat.zero_add, Nat.add_zero, Bool.not_true, Bool.not_false, decide_true, decide_false, reduceIte, and_self, Bool.false_eq_true, aload_one hG.cells, e1, aload_keep kG e2, a1, a2] <;> with_reducible rfl)))) | with_reducible apply cond_t | with_reducible apply cond_f))
        unfold F114_j2
        (repeat (first | (with_reducible apply bindP_intro; (focus (first | with_reducible rfl | (simp only [walkR, get0, getS, Nat.zero_add, Nat.add_zero, Bool.not_true, Bool.not_false, decide_true, decide_false, reduceIte, and_self, Bool.false_eq_true, hi1] <;> with_reducible rfl)))) | (with_reducible apply bind2_intro; (focus (first | with_reducible rfl | (simp only [walkR, get0, getS, Nat.zero_add, Nat.add_zero, Bool.not_true, Bool.not_false, decide_true, decide_false, reduceIte, and_self, Bool.false_eq_true, hi1] <;> with_reducible rfl)))) | with_reducible apply cond_t | with_reducible apply cond_f))
        exact put_loop h hx3 hx c3 hlim hlen hK j (i + 1) d' v' _ (os' ++ [p]) bo2 G2 (by omega) (by omega) a4 a3 (rG.snoc e3) a5 (.inl ⟨a6, a7⟩) (fun _ => by simp) (by simp; omega) hp'
      by_cases hpn : p.1 = nm
      · have hb : (p.1 == nm) = true := by simpa using hpn
        (repeat (first | (with_reducible apply bindP_intro; (focus (first | with_reducible rfl | (simp only [walkR, get0, getS, Nat.zero_add, Nat.add_zero, Bool.not_true, Bool.not_false, decide_true, decide_false, reduceIte, and_self, Bool.false_eq_true, aload_one hH.cells, hH.len, hd, e1, e4, lx3, hb] <;> with_reducible rfl)))) | (with_reducible apply bind2_intro; (focus (first | with_reducible rfl | (simp only [walkR, get0, getS, Nat.zero_add, Nat.add_zero, Bool.not_true, Bool.not_false, decide_true, decide_false, reduceIte, and_self, Bool.false_eq_true, aload_one hH.cells, hH.len, hd, e1, e4, lx3, hb] <;> with_reducible rfl)))) | with_reducible apply cond_t | with_reducible apply cond_f))
        unfold F114_j2
        (repeat (first | (with_reducible apply bindP_intro; (focus (first | with_reducible rfl | (simp only [walkR, get0, getS, Nat.zero_add, Nat.add_zero, Bool.not_true, Bool.not_false, decide_true, decide_false, reduceIte, and_self, Bool.false_eq_true, hi1] <;> with_reducible rfl)))) | (with_reducible apply bind2_intro; (focus (first | with_reducible rfl | (simp only [walkR, get0, getS, Nat.zero_add, Nat.add_zero, Bool.not_true, Bool.not_false, decide_true, decide_false, reduceIte, and_self, Bool.false_eq_true, hi1] <;> with_reducible rfl)))) | with_reducible apply cond_t | with_reducible apply cond_f))
        refine put_loop h hx3 hx c3 hlim hlen hK j (i + 1) d out xs os bo H (by omega) (by omega) k0 ho hR hbo hbn hne (by omega) ?_
        rw [hp, putL, if_pos hpn]
      · have hb : (p.1 == nm) = false := by simpa using hpn
        cases d with
        | true =>
          (repeat (first | (with_reducible apply bindP_intro; (focus (first | with_reducible rfl | (simp only [walkR, get0, getS, Nat.zero_add, Nat.add_zero, Bool.not_true, Bool.not_false, decide_true, decide_false, reduceIte, and_self, Bool.false_eq_true, aload_one hH.cells, hH.len, hd, e1, e4, lx3, hb] <;> with_reducible rfl)))) | (with_reducible apply bind2_intro; (focus (first | with_reducible rfl | (simp only [walkR, get0, getS, Nat.zero_add, Nat.add_zero, Bool.not_true, Bool.not_false, decide_true, decide_false, reduceIte, and_self, Bool.false_eq_true, aload_one hH.cells, hH.len, hd, e1, e4, lx3, hb] <;> with_reducible rfl)))) | with_reducible apply cond_t | with_reducible apply cond_f))
          refine tail true out xs os bo H k0 ho hR hbo hxl (by omega) ?_
          rw [hp, putL, if_neg hpn, if_neg (by simp)]
        | false =>
          have hlt : abin .lss (.str nm) (.str p.1) = some (.bool (decide (nm < p.1))) := by
            show some (AVal.bool (Op.bytesLess nm p.1)) = _
            rw [Go.Proofs.bytesLess_eq]
          by_cases hl : nm < p.1
          · have hdl : decide (nm < p.1) = true := dT hl
            obtain ⟨v', G2, bo2, a1, a2, a3, a4, a5, a6, a7⟩ := out_snoc (lim := lim) (H0 := H0) ho hxc.1 hxc.2 hbo hlim k0 hxl
            (repeat (first | (with_reducible apply bindP_intro; (focus (first | with_reducible rfl | (simp only [walkR, get0, getS, Nat.zero_add, Nat.add_zero, Bool.not_true, Bool.not_false, decide_true, decide_false, reduceIte, and_self, Bool.false_eq_true, aload_one hH.cells, hH.len, hd, e1, e4, lx3, hb, hlt, hdl, aload_all (n := 5) c3' rfl, a1, a2] <;> with_reducible rfl)))) | (with_reducible apply bind2_intro; (focus (first | with_reducible rfl | (simp only [walkR, get0, getS, Nat.zero_add, Nat.add_zero, Bool.not_true, Bool.not_false, decide_true, decide_false, reduceIte, and_self, Bool.false_eq_true, aload_one hH.cells, hH.len, hd, e1, e4, lx3, hb, hlt, hdl, aload_all (n := 5) c3' rfl, a1, a2] <;> with_reducible rfl)))) | with_reducible apply cond_t | with_reducible apply cond_f))
            refine tail true v' _ (os ++ [(nm, f)]) bo2 G2 a4 a3 (hR.snoc hx) a5 (by simp [hR.len]; omega) (by simp; omega) ?_
            rw [hp, putL, if_neg hpn, if_pos ⟨rfl, hl⟩]
          · have hdl : decide (nm < p.1) = false := dF hl
            (repeat (first | (with_reducible apply bindP_intro; (focus (first | with_reducible rfl | (simp only [walkR, get0, getS, Nat.zero_add, Nat.add_zero, Bool.not_true, Bool.not_false, decide_true, decide_false, reduceIte, and_self, Bool.false_eq_true, aload_one hH.cells, hH.len, hd, e1, e4, lx3, hb, hlt, hdl] <;> with_reducible rfl)))) | (with_reducible apply bind2_intro; (focus (first | with_reducible rfl | (simp only [walkR, get0, getS, Nat.zero_add, Nat.add_zero, Bool.not_true, Bool.not_false, decide_true, decide_false, reduceIte, and_self, Bool.false_eq_true, aload_one hH.cells, hH.len, hd, e1, e4, lx3, hb, hlt, hdl] <;> with_reducible rfl)))) | with_reducible apply cond_t | with_reducible apply cond_f))
            refine tail false out xs os bo H k0 ho hR hbo hxl (by omega) ?_
            rw [hp, putL, if_neg hpn, if_neg (by simp [hl])]
    · have hd : decide ((i : Int) < (W.fs.length : Int)) = false := dF (by omega)
      rw [List.drop_eq_nil_of_le (by omega)] at hp
      have c3' := k0.cells c3
      have hxc := rfAt_cells hx
      cases d with
      | true =>
        (repeat (first | (with_reducible apply bindP_intro; (focus (first | with_reducible rfl | (simp only [walkR, get0, getS, Nat.zero_add, Nat.add_zero, Bool.not_true, Bool.not_false, decide_true, decide_false, reduceIte, and_self, Bool.false_eq_true, aload_one hH.cells, hH.len, hd] <;> with_reducible rfl)))) | (with_reducible apply bind2_intro; (focus (first | with_reducible rfl | (simp only [walkR, get0, getS, Nat.zero_add, Nat.add_zero, Bool.not_true, Bool.not_false, decide_true, decide_false, reduceIte, and_self, Bool.false_eq_true, aload_one hH.cells, hH.len, hd] <;> with_reducible rfl)))) | with_reducible apply cond_t | with_reducible apply cond_f))
        unfold F114_j1
        (repeat (first | (with_reducible apply bindP_intro; (focus (first | with_reducible rfl | (simp only [walkR, get0, getS, Nat.zero_add, Nat.add_zero, Bool.not_true, Bool.not_false, decide_true, decide_false, reduceIte, and_self, Bool.false_eq_true] <;> with_reducible rfl)))) | (with_reducible apply bind2_intro; (focus (first | with_reducible rfl | (simp only [walkR, get0, getS, Nat.zero_add, Nat.add_zero, Bool.not_true, Bool.not_false, decide_true, decide_false, reduceIte, and_self, Bool.false_eq_true] <;> with_reducible rfl)))) | with_reducible apply cond_t | with_reducible apply cond_f))
        rcases hbn with hbn | hbn
        · exact hK out xs bo H ho k0 (by rw [hp]; exact hR) hbo hbn.1 hbn.2
        · exfalso
          apply hne rfl
          have hx0 : xs = [] := by
            rcases ho.2 with ⟨_, h2⟩ | ⟨o, cs, h2, h3, _⟩ | ⟨h2, _⟩
            · exact h2
            · exact h3
            · rw [hbn] at h2; simp at h2
          have := hR.len
          rw [hx0] at this
          exact List.eq_nil_of_length_eq_zero this.symm
      | false =>
        obtain ⟨v', G2, bo2, a1, a2, a3, a4, a5, a6, a7⟩ := out_snoc (lim := lim) (H0 := H0) ho hxc.1 hxc.2 hbo hlim k0 hxl
        (repeat (first | (with_reducible apply bindP_intro; (focus (first | with_reducible rfl | (simp only [walkR, get0, getS, Nat.zero_add, Nat.add_zero, Bool.not_true, Bool.not_false, decide_true, decide_false, reduceIte, and_self, Bool.false_eq_true, aload_one hH.cells, hH.len, hd] <;> with_reducible rfl)))) | (with_reducible apply bind2_intro; (focus (first | with_reducible rfl | (simp only [walkR, get0, getS, Nat.zero_add, Nat.add_zero, Bool.not_true, Bool.not_false, decide_true, decide_false, reduceIte, and_self, Bool.false_eq_true, aload_one hH.cells, hH.len, hd] <;> with_reducible rfl)))) | with_reducible apply cond_t | with_reducible apply cond_f))
        unfold F114_j1
        (repeat (first | (with_reducible apply bindP_intro; (focus (first | with_reducible rfl | (simp only [walkR, get0, getS, Nat.zero_add, Nat.add_zero, Bool.not_true, Bool.not_false, decide_true, decide_false, reduceIte, and_self, Bool.false_eq_true, aload_all (n := 5) c3' rfl, a1, a2] <;> with_reducible rfl)))) | (with_reducible apply bind2_intro; (focus (first | with_reducible rfl | (simp only [walkR, get0, getS, Nat.zero_add, Nat.add_zero, Bool.not_true, Bool.not_false, decide_true, decide_false, reduceIte, and_self, Bool.false_eq_true, aload_all (n := 5) c3' rfl, a1, a2] <;> with_reducible rfl)))) | with_reducible apply cond_t | with_reducible apply cond_f))
        refine hK v' _ bo2 G2 a3 a4 ?_ a5 a6 a7
        rw [hp]
        exact hR.snoc hx

/-- What an operation on the document's disk has done. -/
structure ROut (X : Nat → Prop) (H : Heap) (b bv : Nat) (W' : Dsk) (H' : Heap) : Prop where
  ex : ∃ sl' bv', RefAt (fun c => X c ∨ c = bv') H' b bv' sl' W' ∧ (bv' = bv ∨ H.next ≤ bv') ∧ bv' < H'.next
  fr : Fram (fun c => c = b ∨ c = bv) H H'

theorem put_c {n lim : Nat} {nm : Str} {f : Fil} {rs : AVal} (h : RefAt X H b bv sl W) (hA : Asc W.fs) (hlb : lim ≤ b) (hlim : lim ≤ H.next) (hX : ∀ c, X c → c < H.next) (hXb : X b) (hlen : W.fs.length ≤ 100000000) (hn : W.fs.length < n) (hx : RfAt X H (rfV nm rs f.syn f.cut f.torn) (nm, f)) :
    ∃ v H', Ahs.runT ap (n + 1) lim (.fn 114) [ptr b, .agg (rfV nm rs f.syn f.cut f.torn)] H = some (v, H') ∧ ROut X H b bv { W with fs := ins nm f W.fs } H' := by
  refine F114_run a114 ?_
  unfold F114
  have hxc := rfAt_cells hx
  have kx : Keeps2 H (H.push (.cells (rfV nm rs f.syn f.cut f.torn))) := .push _ _
  have nx : (H.push (.cells (rfV nm rs f.syn f.cut f.torn))).next = H.next + 1 := Heap.next_push _ _
  have hbx : (rfV nm rs f.syn f.cut f.torn).all (fun v => v.one) = true := hxc.2
  have hlt := h.ltb
  (repeat (first | (with_reducible apply bindP_intro; (focus (first | with_reducible rfl | (simp only [walkR, get0, getS, Nat.zero_add, Nat.add_zero, Bool.not_true, Bool.not_false, decide_true, decide_false, reduceIte, and_self, Bool.false_eq_true, hbx] <;> with_reducible rfl)))) | (with_reducible apply bind2_intro; (focus (first | with_reducible rfl | (simp only [walkR, get0, getS, Nat.zero_add, Nat.add_zero, Bool.not_true, Bool.not_false, decide_true, decide_false, reduceIte, and_self, Bool.false_eq_true, hbx] <;> with_reducible rfl)))) | with_reducible apply cond_t | with_reducible apply cond_f))
  refine put_loop (n := n) (nm := nm) (f := f) (rs := rs) (H0 := H.push (.cells (rfV nm rs f.syn f.cut f.torn))) (x3 := H.next) (h.keep kx) (by omega) (hx.keep kx) (cells_push_new H _) (by omega) hlen ?_ n 0 false _ [] [] bv _ (by omega) (Nat.zero_le _) (.refl _) ⟨fun _ h => by simp at h, .inl ⟨rfl, rfl⟩⟩ .nil (fun e => by simp [slBlk] at e) (.inr rfl) (fun e => by simp at e) (by simp) (by simp)
  intro out xs bo H' ho k0 hR hbo hb1 hb2
  unfold F114_j0
  have hc := k0.cells (kx.cells h.cells)
  have hone := ho.one
  have st : astore lim H' 1 (.ptr (some (b, 0))) out = some (H'.set b (.cells [out, .bool W.off, .int .i64 (W.fuse : Int)])) := astore_cell hc hlb hone.2 hone.1 (by show 0 < 3; omega) rfl
  (repeat (first | (with_reducible apply bindP_intro; (focus (first | with_reducible rfl | (simp only [walkR, get0, getS, Nat.zero_add, Nat.add_zero, Bool.not_true, Bool.not_false, decide_true, decide_false, reduceIte, and_self, Bool.false_eq_true, st] <;> with_reducible rfl)))) | (with_reducible apply bind2_intro; (focus (first | with_reducible rfl | (simp only [walkR, get0, getS, Nat.zero_add, Nat.add_zero, Bool.not_true, Bool.not_false, decide_true, decide_false, reduceIte, and_self, Bool.false_eq_true, st] <;> with_reducible rfl)))) | with_reducible apply cond_t | with_reducible apply cond_f))
  have k2 := kx.trans k0
  have fr : Fram (fun c => c = b) H' (H'.set b (.cells [out, .bool W.off, .int .i64 (W.fuse : Int)])) := .set rfl
  rw [putL_ins hA, List.nil_append] at hR
  have hRX : RfL (fun c => X c ∨ c = bo) (H.push (.cells (rfV nm rs f.syn f.cut f.torn))) xs (ins nm f W.fs) := hR.more fun c hc e => by
    rcases e with e | e
    · exact e
    · omega
  refine ⟨⟨out, bo, ⟨cells_set_same (by omega), ⟨xs, ho.frame fr (by omega), (hRX.keep k0).frame fr fun c e => by rw [e]; exact .inl hXb⟩, by omega⟩, .inr (by omega), by rw [Heap.next_set]; exact hb2⟩, ?_⟩
  exact (Fram.of k2).set' (.inl (.inl rfl))

theorem filter_take {n : Str} (fs : Fs) : del n fs = fs.filter fun x => !decide (x.1 = n) := rfl

theorem drop_loop {n lim N : Nat} {K : AVal → Heap → Prop} {nm : Str} {H0 : Heap} (h : RefAt X H0 b bv sl W) (hlim : lim ≤ H0.next) (hlen : W.fs.length ≤ 100000000)
    (hK : ∀ out xs bo H', Own H' 5 out xs bo → Keeps2 H0 H' → RfL X H0 xs (del nm W.fs) → (slBlk out = some bo → H0.next ≤ bo) → (bo = bv ∨ H0.next ≤ bo ∧ bo < H'.next) → F115_j0 (Ahs.runT ap n) lim N K (ptr b) out H') :
    ∀ (j i : Nat) (out : AVal) (xs : List (List AVal)) (os : Fs) (bo : Nat) (H : Heap), W.fs.length < j + i → i ≤ W.fs.length → Keeps2 H0 H → Own H 5 out xs bo → RfL X H0 xs os → (slBlk out = some bo → H0.next ≤ bo) → (bo = bv ∨ H0.next ≤ bo ∧ bo < H.next) → os.length ≤ i → del nm W.fs = os ++ del nm (W.fs.drop i) →
      F115_l0 (Ahs.runT ap n) lim N K j (ptr b) (.str nm) out (.int .i64 (i : Int)) H
  | 0, i, out, xs, os, bo, H, hj, hi, _, _, _, _, _, _, _ => by exfalso; omega
  | j + 1, i, out, xs, os, bo, H, hj, hi, k0, ho, hR, hbo, hbn, hol, hp => by
    show F115_s0 _ _ _ _ (F115_l0 _ _ _ _ j) _ _ _ _ _
    unfold F115_s0
    have hH := h.keep k0
    have hxl : xs.length ≤ 1000000000 := by rw [hR.len]; omega
    by_cases hil : i < W.fs.length
    · have hd : decide ((i : Int) < (W.fs.length : Int)) = true := dT (by omega)
      have hpp : W.fs[i]? = some W.fs[i] := List.getElem?_eq_getElem hil
      rw [List.drop_eq_getElem_cons hil] at hp
      generalize W.fs[i] = p at hpp hp
      obtain ⟨q, o, bq, rp, e1, rfl, e2, e3, e4⟩ := h.at' hpp
      have e4' := e4 0 (by omega)
      have e4 : aload H none (.ptr (some (bq, o))) = some (.str p.1) := aload_keep k0 e4'
      have hi1 : IntKind.i64.wrap ((i : Int) + 1) = ((i + 1 : Nat) : Int) := i64_succ (by omega)
      have e3c := rfAt_cells e3
      by_cases hpn : p.1 = nm
      · have hb : (!(p.1 == nm)) = false := by simpa using hpn
        (repeat (first | (with_reducible apply bindP_intro; (focus (first | with_reducible rfl | (simp only [walkR, get0, getS, Nat.zero_add, Nat.add_zero, Bool.not_true, Bool.not_false, decide_true, decide_false, reduceIte, and_self, Bool.false_eq_true, aload_one hH.cells, hH.len, hd, e1, e4, hb] <;> with_reducible rfl)))) | (with_reducible apply bind2_intro; (focus (first | with_reducible rfl | (simp only [walkR, get0, getS, Nat.zero_add, Nat.add_zero, Bool.not_true, Bool.not_false, decide_true, decide_false, reduceIte, and_self, Bool.false_eq_true, aload_one hH.cells, hH.len, hd, e1, e4, hb] <;> with_reducible rfl)))) | with_reducible apply cond_t | with_reducible apply cond_f))
        unfold F115_j1
        (repeat (first | (with_reducible apply bindP_intro; (focus (first | with_reducible rfl | (simp only [walkR, get0, getS, Nat.zero_add, Nat.add_zero, Bool.not_true, Bool.not_false, decide_true, decide_false, reduceIte, and_self, Bool.false_eq_true, hi1] <;> with_reducible rfl)))) | (with_reducible apply bind2_intro; (focus (first | with_reducible rfl | (simp only [walkR, get0, getS, Nat.zero_add, Nat.add_zero, Bool.not_true, Bool.not_false, decide_true, decide_false, reduceIte, and_self, Bool.false_eq_true, hi1] <;> with_reducible rfl)))) | with_reducible apply cond_t | with_reducible apply cond_f))
        refine drop_loop h hlim hlen hK j (i + 1) out xs os bo H (by omega) (by omega) k0 ho hR hbo hbn (by omega) ?_
        rw [hp, del, List.filter_cons]
        simp [hpn, del]
      · have hb : (!(p.1 == nm)) = true := by simpa using hpn
        obtain ⟨v', G2, bo2, a1, a2, a3, a4, a5, a6, a7⟩ := out_snoc (lim := lim) (H0 := H0) ho e3c.1 e3c.2 hbo hlim k0 hxl
        (repeat (first | (with_reducible apply bindP_intro; (focus (first | with_reducible rfl | (simp only [walkR, get0, getS, Nat.zero_add, Nat.add_zero, Bool.not_true, Bool.not_false, decide_true, decide_false, reduceIte, and_self, Bool.false_eq_true, aload_one hH.cells, hH.len, hd, e1, e4, hb, aload_keep k0 e2, a1, a2] <;> with_reducible rfl)))) | (with_reducible apply bind2_intro; (focus (first | with_reducible rfl | (simp only [walkR, get0, getS, Nat.zero_add, Nat.add_zero, Bool.not_true, Bool.not_false, decide_true, decide_false, reduceIte, and_self, Bool.false_eq_true, aload_one hH.cells, hH.len, hd, e1, e4, hb, aload_keep k0 e2, a1, a2] <;> with_reducible rfl)))) | with_reducible apply cond_t | with_reducible apply cond_f))
        unfold F115_j1
        (repeat (first | (with_reducible apply bindP_intro; (focus (first | with_reducible rfl | (simp only [walkR, get0, getS, Nat.zero_add, Nat.add_zero, Bool.not_true, Bool.not_false, decide_true, decide_false, reduceIte, and_self, Bool.false_eq_true, hi1] <;> with_reducible rfl)))) | (with_reducible apply bind2_intro; (focus (first | with_reducible rfl | (simp only [walkR, get0, getS, Nat.zero_add, Nat.add_zero, Bool.not_true, Bool.not_false, decide_true, decide_false, reduceIte, and_self, Bool.false_eq_true, hi1] <;> with_reducible rfl)))) | with_reducible apply cond_t | with_reducible apply cond_f))
        refine drop_loop h hlim hlen hK j (i + 1) v' _ (os ++ [p]) bo2 G2 (by omega) (by omega) a4 a3 (hR.snoc e3) a5 (.inr ⟨a6, a7⟩) (by simp; omega) ?_
        rw [hp, del, List.filter_cons]
        simp [hpn, del]
    · have hd : decide ((i : Int) < (W.fs.length : Int)) = false := dF (by omega)
      rw [List.drop_eq_nil_of_le (by omega)] at hp
      (repeat (first | (with_reducible apply bindP_intro; (focus (first | with_reducible rfl | (simp only [walkR, get0, getS, Nat.zero_add, Nat.add_zero, Bool.not_true, Bool.not_false, decide_true, decide_false, reduceIte, and_self, Bool.false_eq_true, aload_one hH.cells, hH.len, hd] <;> with_reducible rfl)))) | (with_reducible apply bind2_intro; (focus (first | with_reducible rfl | (simp only [walkR, get0, getS, Nat.zero_add, Nat.add_zero, Bool.not_true, Bool.not_false, decide_true, decide_false, reduceIte, and_self, Bool.false_eq_true, aload_one hH.cells, hH.len, hd] <;> with_reducible rfl)))) | with_reducible apply cond_t | with_reducible apply cond_f))
      exact hK out xs bo H ho k0 (by rw [hp]; simpa [del] using hR) hbo hbn

theorem drop_c {n lim : Nat} {nm : Str} (h : RefAt X H b bv sl W) (hlb : lim ≤ b) (hlim : lim ≤ H.next) (hX : ∀ c, X c → c < H.next) (hXb : X b) (hXv : X bv) (hlen : W.fs.length ≤ 100000000) (hn : W.fs.length < n) :
    ∃ v H', Ahs.runT ap (n + 1) lim (.fn 115) [ptr b, .str nm] H = some (v, H') ∧ ROut X H b bv { W with fs := del nm W.fs } H' := by
  refine F115_run a115 ?_
  unfold F115
  have hlt := h.ltb
  have hbv := hX bv hXv
  refine drop_loop (n := n) (nm := nm) (H0 := H) h hlim hlen ?_ n 0 _ [] [] bv _ (by omega) (Nat.zero_le _) (.refl _) ⟨fun _ h => by simp at h, .inl ⟨rfl, rfl⟩⟩ .nil (fun e => by simp [slBlk] at e) (.inl rfl) (by simp) (by simp)
  intro out xs bo H' ho k0 hR hbo hbn
  unfold F115_j0
  have k0n := k0.next
  have hc := k0.cells h.cells
  have hone := ho.one
  have st : astore lim H' 1 (.ptr (some (b, 0))) out = some (H'.set b (.cells [out, .bool W.off, .int .i64 (W.fuse : Int)])) := astore_cell hc hlb hone.2 hone.1 (by show 0 < 3; omega) rfl
  (repeat (first | (with_reducible apply bindP_intro; (focus (first | with_reducible rfl | (simp only [walkR, get0, getS, Nat.zero_add, Nat.add_zero, Bool.not_true, Bool.not_false, decide_true, decide_false, reduceIte, and_self, Bool.false_eq_true, st] <;> with_reducible rfl)))) | (with_reducible apply bind2_intro; (focus (first | with_reducible rfl | (simp only [walkR, get0, getS, Nat.zero_add, Nat.add_zero, Bool.not_true, Bool.not_false, decide_true, decide_false, reduceIte, and_self, Bool.false_eq_true, st] <;> with_reducible rfl)))) | with_reducible apply cond_t | with_reducible apply cond_f))
  have fr : Fram (fun c => c = b) H' (H'.set b (.cells [out, .bool W.off, .int .i64 (W.fuse : Int)])) := .set rfl
  have hbb : bo ≠ b := by
    rcases hbn with rfl | hbn
    · exact h.ne
    · omega
  have hRX : RfL (fun c => X c ∨ c = bo) H xs (del nm W.fs) := hR.more fun c hc e => by
    rcases e with e | rfl
    · exact e
    · rcases hbn with rfl | hbn
      · exact hXv
      · omega
  refine ⟨⟨out, bo, ⟨cells_set_same (by omega), ⟨xs, ho.frame fr hbb, (hRX.keep k0).frame fr fun c e => by rw [e]; exact .inl hXb⟩, hbb⟩, ?_, by rw [Heap.next_set]; omega⟩, (Fram.of k0).set' (.inl (.inl rfl))⟩
  rcases hbn with e | hbn
  · exact .inl e
  · exact .inr hbn.1

end

/-! The document's disk: what its functions come to. Third part. -/

section
variable {X : Nat → Prop} {H : Heap} {b bv : Nat} {sl : AVal} {W : Dsk}

theorem ROut.same {H' : Heap} {W' : Dsk} {sl' : AVal} (h : RefAt X H' b bv sl' W') (hX : ∀ c, X c → c < H'.next) (hXv : X bv) (fr : Fram (fun c => c = b ∨ c = bv) H H') : ROut X H b bv W' H' :=
  ⟨⟨sl', bv, h.more fun c _ e => by rcases e with e | rfl; exact e; exact hXv, .inl rfl, hX _ hXv⟩, fr⟩

/-- What was done from here on, told from there on. -/
theorem ROut.from {X' : Nat → Prop} {H1 H' : Heap} {bv1 : Nat} {W' : Dsk} (h : ROut X' H1 b bv1 W' H') (fr : Fram (fun c => c = b ∨ c = bv) H H1) (h1 : bv1 = bv ∨ H.next ≤ bv1) (hX : ∀ c, X c → X' c) : ROut X H b bv W' H' := by
  obtain ⟨⟨sl', bv', e1, e2, e3⟩, e4⟩ := h
  refine ⟨⟨sl', bv', e1.more fun c _ e => by rcases e with e | e; exact .inl (hX c e); exact .inr e, ?_, e3⟩, fr.trans e4 fun c hc e => ?_⟩
  · rcases e2 with rfl | e2
    · exact h1
    · exact .inr (Nat.le_trans fr.next e2)
  · rcases e with e | rfl
    · exact .inl e
    · rcases h1 with e | h1
      · exact .inr e
      · omega

theorem Own.fz {G : Heap} {sz : Nat} {v : AVal} {xs : List (List AVal)} {bo : Nat} (h : Own G sz v xs bo) : Fz G sz v xs := by
  have hfl := flatten_len (fun x hx => (h.1 x hx).1)
  refine ⟨h.1, ?_⟩
  rcases h.2 with h1 | ⟨o, cs, rfl, rfl, h3, h4⟩ | ⟨h2, h3⟩
  · exact .inl h1
  · exact .inr ⟨bo, o, .ex 0, cs, rfl, Nat.le_refl 0, h3, by simpa using h4, by simp⟩
  · exact .inr ⟨bo, 0, .op sz 0, _, h2, rfl, h3, by rw [hfl]; omega, by rw [List.drop_zero, List.take_of_length_le (by omega)]⟩

/-- A copy: appended to none. -/
theorem copy_c {lim bytes : Nat} {zero : List AVal} {G : Heap} {s : AVal} {xs : List (List AVal)} (hz : zero.length = 1) (hs : Fz (G.push (.cells [])) 1 s xs) (hl : lim ≤ G.next) (hr : xs.length * bytes ≤ room) (hr2 : xs.length ≤ room) :
    ∃ v' H' bo, aappend lim (G.push (.cells [])) zero bytes false (.sl (some (G.next, 0)) 0 (.ex 0)) s = some (v', H') ∧ Own H' 1 v' xs bo ∧ Keeps2 G H' ∧ (∀ c, slBlk v' = some c → G.next ≤ c) ∧ G.next ≤ bo := by
  have ho : Own (G.push (.cells [])) 1 (.sl (some (G.next, 0)) 0 (.ex 0)) [] G.next := ⟨fun _ h => by simp at h, .inr (.inl ⟨0, [], rfl, rfl, cells_push_new G [], Nat.le_refl 0⟩)⟩
  obtain ⟨v', H', bo, e1, e2, e3, e4, e5⟩ := own_append (lim := lim) (zero := zero) (bytes := bytes) (ys := xs) ho hz (by omega) hs.sl.source hs.each (by simpa using hr) (by simpa using hr2) (fun _ => hl)
  have hk : Keeps2 G H' := Fram.keeps (.push _ _) e3 (fun c hc e => by simp [slBlk] at e; omega)
  have hbo : G.next ≤ bo := by
    rcases e4 with ⟨rfl, _⟩ | h
    · exact Nat.le_refl _
    · rw [Heap.next_push] at h; omega
  exact ⟨v', H', bo, e1, by simpa using e2, hk, fun c hc => by have := e2.blk c hc; omega, hbo⟩

theorem z11 : z11b428.length = 5 := rfl

theorem rAppend_j {n lim K : Nat} {K' : AVal → Heap → Prop} {nm r : Str} {f : Fil} {rs : AVal} {x7 : Nat} {N : Nat} {Hb : Heap} (frb : Fram (fun c => c = b ∨ c = bv) Hb H) (hb7 : Hb.next ≤ x7) (h : RefAt X H b bv sl W) (hXb : X b) (hXv : X bv) (hlb : lim ≤ b) (hl7 : lim ≤ x7) (hlim : lim ≤ H.next) (hX : ∀ c, X c → c < H.next) (h7 : x7 < H.next) (hn7 : x7 ≠ b ∧ x7 ≠ bv) (hX7 : X x7)
    (c7 : H.cells x7 = some (rfV nm rs f.syn f.cut f.torn)) (hx : RfAt X H (rfV nm rs f.syn f.cut f.torn) (nm, f)) (hA : DskOK K W) (hK : K ≤ 50000000) (hf : f.recs.length ≤ K) (hn : W.fs.length < n) (ho : W.off = false)
    (hK0 : f.cut = true → K' (.int .i64 9) H)
    (hK1 : ∀ H', f.cut = false → ROut X Hb b bv (operD W fun B => { B with fs := ins nm { f with recs := f.recs ++ [r] } B.fs }).2 H' → K' (.int .i64 (operD W fun B => { B with fs := ins nm { f with recs := f.recs ++ [r] } B.fs }).1) H') :
    F92_j0 (Ahs.runT ap (n + 1)) lim N K' (ptr b) (.str r) (ptr x7) H := by
  unfold F92_j0
  have l3 : aload H none (.ptr (some (x7, 3))) = some (.bool f.cut) := by rw [aload_one c7]; rfl
  cases hc : f.cut with
  | true =>
    rw [hc] at l3
    (repeat (first | (with_reducible apply bindP_intro; (focus (first | with_reducible rfl | (simp only [walkR, get0, getS, Nat.zero_add, Nat.add_zero, Bool.not_true, Bool.not_false, decide_true, decide_false, reduceIte, and_self, Bool.false_eq_true, l3, boolOf_b] <;> with_reducible rfl)))) | (with_reducible apply bind2_intro; (focus (first | with_reducible rfl | (simp only [walkR, get0, getS, Nat.zero_add, Nat.add_zero, Bool.not_true, Bool.not_false, decide_true, decide_false, reduceIte, and_self, Bool.false_eq_true, l3, boolOf_b] <;> with_reducible rfl)))) | with_reducible apply cond_t | with_reducible apply cond_f))
    exact hK0 hc
  | false =>
    rw [hc] at l3
    obtain ⟨G, g1, g2, g3⟩ := goes_c (n := n) (lim := lim) h hXb hlb ho hA.fuse
    have hK1 := fun H' => hK1 H' hc
    unfold operD at hK1
    cases hbo : (burn W).off with
    | true =>
      rw [hbo] at g1 hK1
      simp only [if_true] at hK1
      (repeat (first | (with_reducible apply bindP_intro; (focus (first | with_reducible rfl | (simp only [walkR, get0, getS, Nat.zero_add, Nat.add_zero, Bool.not_true, Bool.not_false, decide_true, decide_false, reduceIte, and_self, Bool.false_eq_true, l3, boolOf_b, g1] <;> with_reducible rfl)))) | (with_reducible apply bind2_intro; (focus (first | with_reducible rfl | (simp only [walkR, get0, getS, Nat.zero_add, Nat.add_zero, Bool.not_true, Bool.not_false, decide_true, decide_false, reduceIte, and_self, Bool.false_eq_true, l3, boolOf_b, g1] <;> with_reducible rfl)))) | with_reducible apply cond_t | with_reducible apply cond_f))
      exact hK1 G (.same g2 (fun c e => by have := hX c e; have := g3.next; omega) hXv (frb.trans g3 fun c _ e => .inl e))
    | false =>
      rw [hbo] at g1 hK1
      simp only [Bool.false_eq_true, if_false] at hK1
      have c7G : G.cells x7 = some (rfV nm rs f.syn f.cut f.torn) := g3.cells c7 hn7.1
      have hxG := hx.frame g3 (fun c e => by rw [e]; exact hXb)
      obtain ⟨rs', e0, hfz, hrb⟩ := hxG
      simp only [List.cons.injEq, true_and, and_true] at e0
      obtain ⟨rfl, _⟩ := e0
      have g3n := g3.next
      have kE : Keeps2 G (G.push (.cells [])) := .push _ _
      have hfl0 : fillV [] [] = some [] := rfl
      have hrm : room = 140737488355328 := rfl
      obtain ⟨v1, H1, bo1, a1, a2, a3, a4, a5⟩ := copy_c (lim := lim) (bytes := 16) (zero := [.str []]) rfl (hfz.keep kE) (by omega) (by rw [encR_len]; show f.recs.length * 16 ≤ _; omega) (by rw [encR_len]; show f.recs.length ≤ _; omega)
      have lr1 : aload (G.push (.cells [])) none (.ptr (some (x7, 1))) = some rs := by rw [aload_one (kE.cells c7G)]; rfl
      have hfl1 : fillV [.str []] [(0, 1, .str r)] = some [.str r] := rfl
      have kR : Keeps2 H1 (H1.push (.cells [.str r])) := .push _ _
      have ho1 : Own (H1.push (.cells [.str r])) 1 v1 (encR f.recs) bo1 := by
        rcases a2.2 with ⟨e, h2⟩ | ⟨o, cs, e, h2, h3, h4⟩ | ⟨e, h4⟩
        · exact ⟨a2.1, .inl ⟨e, h2⟩⟩
        · exact ⟨a2.1, .inr (.inl ⟨o, cs, e, h2, kR.cells h3, h4⟩)⟩
        · exact ⟨a2.1, .inr (.inr ⟨e, kR.cells h4⟩)⟩
      have hsrc : source (H1.push (.cells [.str r])) 1 (.sl (some (H1.next, 0)) 1 (.ex 1)) = some (([[.str r]] : List (List AVal)).length, ([[.str r]] : List (List AVal)).flatten) := source_new H1 rfl (by decide)
      obtain ⟨v2, H2, bo2, d1, d2, d3, d4, d5⟩ := own_append (lim := lim) (zero := [.str []]) (bytes := 16) ho1 rfl (by decide) hsrc (fun y hy => by simp at hy; subst hy; exact ⟨rfl, rfl⟩) (by rw [encR_len]; simp; omega) (by rw [encR_len]; simp; omega) (fun e => by have := a4 _ e; omega)
      have kG2 : Keeps2 G H2 := Fram.keeps (a3.trans kR) d3 (fun c hc e => by have := a4 c e; omega)
      have hbo2 : G.next ≤ bo2 := by
        rcases d4 with ⟨_, h | h⟩ | h
        · simp at h
        · exact h.elim
        · have := a3.next; rw [Heap.next_push] at h; omega
      have c7' : H2.cells x7 = some (rfV nm rs f.syn f.cut f.torn) := kG2.cells c7G
      have hone := d2.one
      have s7 : astore lim H2 1 (.ptr (some (x7, 1))) v2 = some (H2.set x7 (.cells (rfV nm v2 f.syn f.cut f.torn))) := astore_cell c7' hl7 hone.2 hone.1 (by show 1 < 5; omega) rfl
      have kn2 := kG2.next
      have f7 : Fram (fun c => c = x7) H2 (H2.set x7 (.cells (rfV nm v2 f.syn f.cut f.torn))) := .set rfl
      have c8 : (H2.set x7 (.cells (rfV nm v2 f.syn f.cut f.torn))).cells x7 = some (rfV nm v2 f.syn f.cut f.torn) := cells_set_same (by omega)
      have h8 : RefAt X (H2.set x7 (.cells (rfV nm v2 f.syn f.cut f.torn))) b bv sl (burn W) := (g2.keep kG2).frame f7 (fun e => hn7.1 e.symm) (fun e => hn7.2 e.symm) (fun c e => by rw [e]; exact hX7)
      have n8 : (H2.set x7 (.cells (rfV nm v2 f.syn f.cut f.torn))).next = H2.next := Heap.next_set _ _ _
      have fr8 : Fram (fun c => c = x7 ∨ c = b) H (H2.set x7 (.cells (rfV nm v2 f.syn f.cut f.torn))) := ((g3.weaken (S' := fun c => c = x7 ∨ c = b) fun c _ e => .inr e).trans (.of (S := fun c => c = x7 ∨ c = b) kG2) (fun c _ e => e)).trans f7 (fun c _ e => .inl e)
      have hx8 : RfAt X (H2.set x7 (.cells (rfV nm v2 f.syn f.cut f.torn))) (rfV nm v2 f.syn f.cut f.torn) (nm, { f with recs := f.recs ++ [r] }) := by
        refine ⟨v2, rfl, ?_, fun c hcc e => ?_⟩
        · rw [encR_app, encR_one]
          exact (Own.fz d2).frame f7 (fun c hcc e => by have := d2.blk c hcc; omega)
        · have := d2.blk c hcc
          have := hX c e
          omega
      have hblen : (burn W).fs.length ≤ K := by rw [burn_fs]; exact hA.len
      obtain ⟨vp, H9, p1, p2⟩ := put_c (n := n) (lim := lim) (nm := nm) (f := { f with recs := f.recs ++ [r] }) (rs := v2) h8 (by rw [burn_fs]; exact hA.asc) hlb (by omega) (fun c e => by have := hX c e; omega) hXb (by omega) (by rw [burn_fs]; exact hn) hx8
      (repeat (first | (with_reducible apply bindP_intro; (focus (first | with_reducible rfl | (simp only [walkR, get0, getS, Nat.zero_add, Nat.add_zero, Bool.not_true, Bool.not_false, decide_true, decide_false, reduceIte, and_self, Bool.false_eq_true, l3, boolOf_b, g1, hfl0, lr1, a1, hfl1, d1, s7, aload_all (n := 5) c8 rfl, p1] <;> with_reducible rfl)))) | (with_reducible apply bind2_intro; (focus (first | with_reducible rfl | (simp only [walkR, get0, getS, Nat.zero_add, Nat.add_zero, Bool.not_true, Bool.not_false, decide_true, decide_false, reduceIte, and_self, Bool.false_eq_true, l3, boolOf_b, g1, hfl0, lr1, a1, hfl1, d1, s7, aload_all (n := 5) c8 rfl, p1] <;> with_reducible rfl)))) | with_reducible apply cond_t | with_reducible apply cond_f))
      exact hK1 H9 (p2.from (frb.trans fr8 fun c hc e => by
        rcases e with rfl | e
        · have := frb.next; omega
        · exact .inl e) (.inl rfl) fun c e => e)

theorem ROut.lessX {X' : Nat → Prop} {H1 H' : Heap} {W' : Dsk} (h : ROut X' H1 b bv W' H') (hX : ∀ c, X c → X' c) : ROut X H1 b bv W' H' := h.from (.refl _ _) (.inl rfl) hX

theorem rAppend_c {n lim K : Nat} (h : RefAt X H b bv sl W) (hA : DskOK K W) (hK : K ≤ 50000000) (hXb : X b) (hXv : X bv) (hlb : lim ≤ b) (hlim : lim ≤ H.next) (hX : ∀ c, X c → c < H.next) (hn : W.fs.length < n) (nm r : Str) :
    ∃ v H', Ahs.runT ap (n + 2) lim (.fn 92) [ptr b, .str nm, .str r] H = some (v, H') ∧ v = .int .i64 (appendD W nm r).1 ∧ ROut X H b bv (appendD W nm r).2 H' := by
  refine F92_run a92 ?_
  unfold F92 appendD
  have hlt := h.ltb
  have hbv := hX bv hXv
  have ld : aload H none (.ptr (some (b, 1))) = some (.bool W.off) := by rw [aload_one h.cells]; rfl
  cases ho : W.off with
  | true =>
    rw [ho] at ld
    (repeat (first | (with_reducible apply bindP_intro; (focus (first | with_reducible rfl | (simp only [walkR, get0, getS, Nat.zero_add, Nat.add_zero, Bool.not_true, Bool.not_false, decide_true, decide_false, reduceIte, and_self, Bool.false_eq_true, ld, boolOf_b] <;> with_reducible rfl)))) | (with_reducible apply bind2_intro; (focus (first | with_reducible rfl | (simp only [walkR, get0, getS, Nat.zero_add, Nat.add_zero, Bool.not_true, Bool.not_false, decide_true, decide_false, reduceIte, and_self, Bool.false_eq_true, ld, boolOf_b] <;> with_reducible rfl)))) | with_reducible apply cond_t | with_reducible apply cond_f))
    exact ⟨rfl, .same h hX hXv (.refl _ _)⟩
  | false =>
    rw [ho] at ld
    simp only [Bool.false_eq_true, if_false]
    by_cases hr : rightN nm = false ∨ r = []
    · rw [if_pos hr]
      cases hn' : rightN nm with
      | false =>
        (repeat (first | (with_reducible apply bindP_intro; (focus (first | with_reducible rfl | (simp only [walkR, get0, getS, Nat.zero_add, Nat.add_zero, Bool.not_true, Bool.not_false, decide_true, decide_false, reduceIte, and_self, Bool.false_eq_true, ld, boolOf_b, r7right_c, hn'] <;> with_reducible rfl)))) | (with_reducible apply bind2_intro; (focus (first | with_reducible rfl | (simp only [walkR, get0, getS, Nat.zero_add, Nat.add_zero, Bool.not_true, Bool.not_false, decide_true, decide_false, reduceIte, and_self, Bool.false_eq_true, ld, boolOf_b, r7right_c, hn'] <;> with_reducible rfl)))) | with_reducible apply cond_t | with_reducible apply cond_f))
        exact ⟨rfl, .same h hX hXv (.refl _ _)⟩
      | true =>
        have hr0 : r = [] := by rcases hr with e | e
                                · rw [hn'] at e; simp at e
                                · exact e
        subst hr0
        have he : (((([] : Str).length : Nat) : Int) == 0) = true := rfl
        (repeat (first | (with_reducible apply bindP_intro; (focus (first | with_reducible rfl | (simp only [walkR, get0, getS, Nat.zero_add, Nat.add_zero, Bool.not_true, Bool.not_false, decide_true, decide_false, reduceIte, and_self, Bool.false_eq_true, ld, boolOf_b, r7right_c, hn', he] <;> with_reducible rfl)))) | (with_reducible apply bind2_intro; (focus (first | with_reducible rfl | (simp only [walkR, get0, getS, Nat.zero_add, Nat.add_zero, Bool.not_true, Bool.not_false, decide_true, decide_false, reduceIte, and_self, Bool.false_eq_true, ld, boolOf_b, r7right_c, hn', he] <;> with_reducible rfl)))) | with_reducible apply cond_t | with_reducible apply cond_f))
        exact ⟨rfl, .same h hX hXv (.refl _ _)⟩
    · rw [if_neg hr]
      have hn' : rightN nm = true := by
        cases hn' : rightN nm with
        | true => rfl
        | false => exact absurd (Or.inl hn') hr
      have hp : 0 < r.length := List.length_pos_iff.2 fun e => hr (.inr e)
      have he : (((r.length : Nat) : Int) == 0) = false := by rw [Bool.eq_false_iff]; simp; intro e; exact hr (.inr e)
      have hbu : buildO z11b428 [(0, 1, .str nm)] = some (.agg (rfV nm (.sl none 0 (.ex 0)) 0 false [])) := rfl
      have st0 : astore lim (H.push (.cells z11b428)) 5 (.ptr (some (H.next, 0))) (.agg (rfV nm (.sl none 0 (.ex 0)) 0 false [])) = some (H.push (.cells (rfV nm (.sl none 0 (.ex 0)) 0 false []))) := astore_new (cs := z11b428) (x := .agg (rfV nm (.sl none 0 (.ex 0)) 0 false [])) hlim rfl rfl rfl
      have k0 : Keeps2 H (H.push (.cells (rfV nm (.sl none 0 (.ex 0)) 0 false []))) := .push _ _
      have hl := hA.len
      obtain ⟨q, q1, q2, q3⟩ := find_c (n := n) (lim := lim) (h.keep k0) (by omega) (by omega) nm
      -- the rest
      have go : ∀ (rs : AVal) (f : Fil), (lk W.fs nm).getD noFil = f → RfAt X H (rfV nm rs f.syn f.cut f.torn) (nm, f) → F92_j0 (Ahs.runT ap (n + 1)) lim (n + 1) (fun v H' => v = .int .i64 (if ((lk W.fs nm).getD noFil).cut = true then (9, W) else operD W fun B => { B with fs := ins nm { ((lk W.fs nm).getD noFil) with recs := ((lk W.fs nm).getD noFil).recs ++ [r] } B.fs }).1 ∧
          ROut X H b bv (if ((lk W.fs nm).getD noFil).cut = true then (9, W) else operD W fun B => { B with fs := ins nm { ((lk W.fs nm).getD noFil) with recs := ((lk W.fs nm).getD noFil).recs ++ [r] } B.fs }).2 H') (ptr b) (.str r) (.ptr (some (H.next, 0))) (H.push (.cells (rfV nm rs f.syn f.cut f.torn))) := by
        intro rs f hf hx
        rw [hf]
        have kx : Keeps2 H (H.push (.cells (rfV nm rs f.syn f.cut f.torn))) := .push _ _
        have nx : (H.push (.cells (rfV nm rs f.syn f.cut f.torn))).next = H.next + 1 := Heap.next_push _ _
        have hfo := lk_ok hA nm
        rw [hf] at hfo
        refine rAppend_j (X := fun c => X c ∨ c = H.next) (n := n) (nm := nm) (f := f) (rs := rs) (x7 := H.next) (Hb := H) (.of kx) (Nat.le_refl _) ((h.more fun c hc e => by rcases e with e | e; exact e; omega).keep kx) (.inl hXb) (.inl hXv) hlb (by omega) (by omega) (fun c e => by rcases e with e | e; have := hX c e; omega; omega) (by omega) ⟨by omega, by omega⟩ (.inr rfl) (cells_push_new _ _) ((hx.more fun c hc e => by rcases e with e | e; exact e; omega).keep kx) hA hK hfo.many hn ho ?_ ?_
        · intro hc
          rw [if_pos hc]
          exact ⟨rfl, .same (h.keep kx) (fun c e => by have := hX c e; omega) hXv (.of kx)⟩
        · intro H' hc hro
          rw [if_neg (by rw [hc]; simp)]
          exact ⟨rfl, hro.lessX fun c e => .inl e⟩
      cases hlk : lk W.fs nm with
      | none =>
        have := q2 hlk
        subst this
        have hge : decide ((0 : Int) ≤ -1) = false := rfl
        (repeat (first | (with_reducible apply bindP_intro; (focus (first | with_reducible rfl | (simp only [walkR, get0, getS, Nat.zero_add, Nat.add_zero, Bool.not_true, Bool.not_false, decide_true, decide_false, reduceIte, and_self, Bool.false_eq_true, ld, boolOf_b, r7right_c, hn', he, hbu, st0, q1, hge] <;> with_reducible rfl)))) | (with_reducible apply bind2_intro; (focus (first | with_reducible rfl | (simp only [walkR, get0, getS, Nat.zero_add, Nat.add_zero, Bool.not_true, Bool.not_false, decide_true, decide_false, reduceIte, and_self, Bool.false_eq_true, ld, boolOf_b, r7right_c, hn', he, hbu, st0, q1, hge] <;> with_reducible rfl)))) | with_reducible apply cond_t | with_reducible apply cond_f))
        have := go (.sl none 0 (.ex 0)) noFil (by rw [hlk]; rfl) ⟨_, rfl, Fz.nil H 1, fun c hc => by simp [slBlk] at hc⟩
        rw [hlk] at this
        exact this
      | some f =>
        obtain ⟨i, rfl, hi⟩ := q3 f hlk
        have hge : decide ((0 : Int) ≤ (i : Int)) = true := dT (by omega)
        obtain ⟨qa, o, bq, rs, e1, rfl, e2, e3, e4⟩ := h.at' hi
        have e3c := rfAt_cells e3
        have st1 : astore lim (H.push (.cells (rfV nm (.sl none 0 (.ex 0)) 0 false []))) 5 (.ptr (some (H.next, 0))) (.agg (rfV nm rs f.syn f.cut f.torn)) = some (H.push (.cells (rfV nm rs f.syn f.cut f.torn))) := astore_new (cs := rfV nm (.sl none 0 (.ex 0)) 0 false []) (x := .agg (rfV nm rs f.syn f.cut f.torn)) hlim rfl rfl e3c.2
        (repeat (first | (with_reducible apply bindP_intro; (focus (first | with_reducible rfl | (simp only [walkR, get0, getS, Nat.zero_add, Nat.add_zero, Bool.not_true, Bool.not_false, decide_true, decide_false, reduceIte, and_self, Bool.false_eq_true, ld, boolOf_b, r7right_c, hn', he, hbu, st0, q1, hge, aload_one (k0.cells h.cells), e1, aload_keep k0 e2, st1] <;> with_reducible rfl)))) | (with_reducible apply bind2_intro; (focus (first | with_reducible rfl | (simp only [walkR, get0, getS, Nat.zero_add, Nat.add_zero, Bool.not_true, Bool.not_false, decide_true, decide_false, reduceIte, and_self, Bool.false_eq_true, ld, boolOf_b, r7right_c, hn', he, hbu, st0, q1, hge, aload_one (k0.cells h.cells), e1, aload_keep k0 e2, st1] <;> with_reducible rfl)))) | with_reducible apply cond_t | with_reducible apply cond_f))
        have := go rs f (by rw [hlk]; rfl) e3
        rw [hlk] at this
        exact this

theorem ins_set {α : Type} {n : Str} {f g : α} : ∀ {fs : List (Str × α)} {i : Nat}, Asc fs → fs[i]? = some (n, f) → ins n g fs = fs.set i (n, g)
  | [], i, _, h => by simp at h
  | x :: xs, 0, h, hi => by
    simp at hi; subst hi
    unfold ins
    rw [if_neg (str_irrefl n), if_pos rfl]; rfl
  | x :: xs, i + 1, h, hi => by
    have h1 := List.pairwise_cons.1 h
    have hm : (n, f) ∈ xs := List.mem_of_getElem? (by simpa using hi)
    have hlt := h1.1 _ hm
    unfold ins
    rw [if_neg (fun e => str_irrefl _ (str_trans hlt e)), if_neg (fun e => by rw [e] at hlt; exact str_irrefl _ hlt), ins_set h1.2 (by simpa using hi)]
    rfl

theorem rSync_c {n lim K : Nat} (h : RefAt X H b bv sl W) (hA : DskOK K W) (hK : K ≤ 50000000) (hXb : X b) (hXv : X bv) (hlb : lim ≤ b) (hlv : lim ≤ bv) (hlim : lim ≤ H.next) (hX : ∀ c, X c → c < H.next) (hn : W.fs.length < n) (nm : Str) :
    ∃ v H', Ahs.runT ap (n + 2) lim (.fn 93) [ptr b, .str nm] H = some (v, H') ∧ v = .int .i64 (syncD W nm).1 ∧ ROut X H b bv (syncD W nm).2 H' := by
  refine F93_run a93 ?_
  unfold F93 syncD
  have ld : aload H none (.ptr (some (b, 1))) = some (.bool W.off) := by rw [aload_one h.cells]; rfl
  cases ho : W.off with
  | true =>
    rw [ho] at ld
    rw [onD_off ho]
    (repeat (first | (with_reducible apply bindP_intro; (focus (first | with_reducible rfl | (simp only [walkR, get0, getS, Nat.zero_add, Nat.add_zero, Bool.not_true, Bool.not_false, decide_true, decide_false, reduceIte, and_self, Bool.false_eq_true, ld, boolOf_b] <;> with_reducible rfl)))) | (with_reducible apply bind2_intro; (focus (first | with_reducible rfl | (simp only [walkR, get0, getS, Nat.zero_add, Nat.add_zero, Bool.not_true, Bool.not_false, decide_true, decide_false, reduceIte, and_self, Bool.false_eq_true, ld, boolOf_b] <;> with_reducible rfl)))) | with_reducible apply cond_t | with_reducible apply cond_f))
    exact ⟨rfl, .same h hX hXv (.refl _ _)⟩
  | false =>
    rw [ho] at ld
    have hl := hA.len
    obtain ⟨q, q1, q2, q3⟩ := find_c (n := n) (lim := lim) h (by omega) (by omega) nm
    cases hlk : lk W.fs nm with
    | none =>
      have := q2 hlk
      subst this
      have hge : decide ((-1 : Int) < 0) = true := rfl
      rw [onD_none ho hlk]
      (repeat (first | (with_reducible apply bindP_intro; (focus (first | with_reducible rfl | (simp only [walkR, get0, getS, Nat.zero_add, Nat.add_zero, Bool.not_true, Bool.not_false, decide_true, decide_false, reduceIte, and_self, Bool.false_eq_true, ld, boolOf_b, q1, hge] <;> with_reducible rfl)))) | (with_reducible apply bind2_intro; (focus (first | with_reducible rfl | (simp only [walkR, get0, getS, Nat.zero_add, Nat.add_zero, Bool.not_true, Bool.not_false, decide_true, decide_false, reduceIte, and_self, Bool.false_eq_true, ld, boolOf_b, q1, hge] <;> with_reducible rfl)))) | with_reducible apply cond_t | with_reducible apply cond_f))
      exact ⟨rfl, .same h hX hXv (.refl _ _)⟩
    | some f =>
      obtain ⟨i, rfl, hi⟩ := q3 f hlk
      have hge : decide ((i : Int) < 0) = false := dF (by omega)
      rw [onD_some ho hlk]
      obtain ⟨G, g1, g2, g3⟩ := goes_c (n := n) (lim := lim) h hXb hlb ho hA.fuse
      unfold operD
      cases hbo : (burn W).off with
      | true =>
        rw [hbo] at g1
        (repeat (first | (with_reducible apply bindP_intro; (focus (first | with_reducible rfl | (simp only [walkR, get0, getS, Nat.zero_add, Nat.add_zero, Bool.not_true, Bool.not_false, decide_true, decide_false, reduceIte, and_self, Bool.false_eq_true, ld, boolOf_b, q1, hge, g1] <;> with_reducible rfl)))) | (with_reducible apply bind2_intro; (focus (first | with_reducible rfl | (simp only [walkR, get0, getS, Nat.zero_add, Nat.add_zero, Bool.not_true, Bool.not_false, decide_true, decide_false, reduceIte, and_self, Bool.false_eq_true, ld, boolOf_b, q1, hge, g1] <;> with_reducible rfl)))) | with_reducible apply cond_t | with_reducible apply cond_f))
        exact ⟨rfl, .same g2 (fun c e => by have := hX c e; have := g3.next; omega) hXv (g3.weaken fun c _ e => .inl e)⟩
      | false =>
        rw [hbo] at g1
        have hi' : (burn W).fs[i]? = some (nm, f) := by rw [burn_fs]; exact hi
        obtain ⟨xs, o1, o2⟩ := g2.own
        obtain ⟨x, hx, rs, rfl, hz1, hz2⟩ := o2.get hi'
        have hil : i < xs.length := (List.getElem?_eq_some_iff.1 hx).1
        have sl1 := o1.sl
        have had := sl1.addr (k := .i64) hil
        have g3n := g3.next
        have hrl : alen false rs = some (.int .i64 (f.recs.length : Int)) := by rw [hz1.sl.len, encR_len]
        have l1 : aload G none (slot sl (i * 5 + 1)) = some rs := sl1.loadf hx (by decide)
        obtain ⟨G2, s1, s2, s3, s4⟩ := own_store (lim := lim) o1 (fun _ => hlv) hx (f := 2) (by decide) (y := .int .i64 (f.recs.length : Int)) rfl rfl
        have hfa := fun off => faddr_slot sl1 (show 0 < xs.length by omega) (i * 5) off
        (repeat (first | (with_reducible apply bindP_intro; (focus (first | with_reducible rfl | (simp only [walkR, get0, getS, Nat.zero_add, Nat.add_zero, Bool.not_true, Bool.not_false, decide_true, decide_false, reduceIte, and_self, Bool.false_eq_true, ld, boolOf_b, q1, hge, g1, aload_one g2.cells, had, hfa, l1, hrl, s1] <;> with_reducible rfl)))) | (with_reducible apply bind2_intro; (focus (first | with_reducible rfl | (simp only [walkR, get0, getS, Nat.zero_add, Nat.add_zero, Bool.not_true, Bool.not_false, decide_true, decide_false, reduceIte, and_self, Bool.false_eq_true, ld, boolOf_b, q1, hge, g1, aload_one g2.cells, had, hfa, l1, hrl, s1] <;> with_reducible rfl)))) | with_reducible apply cond_t | with_reducible apply cond_f))
        have hsb : ∀ c, slBlk sl = some c → c = bv := fun c e => o1.blk c e
        have fr2 : Fram (fun c => c = bv) G G2 := s3.weaken fun c _ e => hsb c e
        refine ⟨rfl, .same (sl' := sl) ⟨fr2.cells g2.cells (fun e => g2.ne e.symm), ⟨_, s2, ?_⟩, g2.ne⟩ (fun c e => by have := hX c e; omega) hXv ((g3.weaken (S' := fun c => c = b ∨ c = bv) fun c _ e => .inl e).trans fr2 fun c _ e => .inr e)⟩
        have o2' := o2.frame fr2 (fun c e => by rw [e]; exact hXv)
        have hio : (burn W).fs = W.fs := burn_fs W
        have hins : ins nm { f with syn := f.recs.length } (burn W).fs = (burn W).fs.set i (nm, { f with syn := f.recs.length }) := ins_set (by rw [burn_fs]; exact hA.asc) hi'
        show RfL X G2 _ (ins nm { f with syn := f.recs.length } (burn W).fs)
        rw [hins]
        refine ⟨by simp [o2'.len], fun j y p e e' => ?_⟩
        rw [List.getElem?_set] at e e'
        by_cases hij : i = j
        · subst hij
          rw [if_pos rfl, if_pos (by simpa using hil)] at e
          rw [if_pos rfl, if_pos (by rw [← o2'.len]; exact hil)] at e'
          simp only [Option.some.injEq] at e e'
          subst e e'
          exact ⟨rs, rfl, hz1.frame fr2 (fun c hc e => hz2 c hc (by rw [e]; exact hXv)), hz2⟩
        · rw [if_neg hij] at e e'
          exact o2'.at' j y p e e'

end

/-! The document's disk: what its functions come to. Fourth part. -/

section
variable {X : Nat → Prop} {H : Heap} {b bv : Nat} {sl : AVal} {W : Dsk}

theorem rDelete_c {n lim K : Nat} (h : RefAt X H b bv sl W) (hA : DskOK K W) (hK : K ≤ 50000000) (hXb : X b) (hXv : X bv) (hlb : lim ≤ b) (hlim : lim ≤ H.next) (hX : ∀ c, X c → c < H.next) (hn : W.fs.length < n) (nm : Str) :
    ∃ v H', Ahs.runT ap (n + 2) lim (.fn 95) [ptr b, .str nm] H = some (v, H') ∧ v = .int .i64 (deleteD W nm).1 ∧ ROut X H b bv (deleteD W nm).2 H' := by
  refine F95_run a95 ?_
  unfold F95 deleteD
  have ld : aload H none (.ptr (some (b, 1))) = some (.bool W.off) := by rw [aload_one h.cells]; rfl
  cases ho : W.off with
  | true =>
    rw [ho] at ld
    rw [onD_off ho]
    (repeat (first | (with_reducible apply bindP_intro; (focus (first | with_reducible rfl | (simp only [walkR, get0, getS, Nat.zero_add, Nat.add_zero, Bool.not_true, Bool.not_false, decide_true, decide_false, reduceIte, and_self, Bool.false_eq_true, ld, boolOf_b] <;> with_reducible rfl)))) | (with_reducible apply bind2_intro; (focus (first | with_reducible rfl | (simp only [walkR, get0, getS, Nat.zero_add, Nat.add_zero, Bool.not_true, Bool.not_false, decide_true, decide_false, reduceIte, and_self, Bool.false_eq_true, ld, boolOf_b] <;> with_reducible rfl)))) | with_reducible apply cond_t | with_reducible apply cond_f))
    exact ⟨rfl, .same h hX hXv (.refl _ _)⟩
  | false =>
    rw [ho] at ld
    have hl := hA.len
    obtain ⟨q, q1, q2, q3⟩ := find_c (n := n) (lim := lim) h (by omega) (by omega) nm
    cases hlk : lk W.fs nm with
    | none =>
      have := q2 hlk
      subst this
      have hge : decide ((-1 : Int) < 0) = true := rfl
      rw [onD_none ho hlk]
      (repeat (first | (with_reducible apply bindP_intro; (focus (first | with_reducible rfl | (simp only [walkR, get0, getS, Nat.zero_add, Nat.add_zero, Bool.not_true, Bool.not_false, decide_true, decide_false, reduceIte, and_self, Bool.false_eq_true, ld, boolOf_b, q1, hge] <;> with_reducible rfl)))) | (with_reducible apply bind2_intro; (focus (first | with_reducible rfl | (simp only [walkR, get0, getS, Nat.zero_add, Nat.add_zero, Bool.not_true, Bool.not_false, decide_true, decide_false, reduceIte, and_self, Bool.false_eq_true, ld, boolOf_b, q1, hge] <;> with_reducible rfl)))) | with_reducible apply cond_t | with_reducible apply cond_f))
      exact ⟨rfl, .same h hX hXv (.refl _ _)⟩
    | some f =>
      obtain ⟨i, rfl, hi⟩ := q3 f hlk
      have hge : decide ((i : Int) < 0) = false := dF (by omega)
      rw [onD_some ho hlk]
      obtain ⟨G, g1, g2, g3⟩ := goes_c (n := n) (lim := lim) h hXb hlb ho hA.fuse
      have g3n := g3.next
      have hXG : ∀ c, X c → c < G.next := fun c e => by have := hX c e; omega
      have frG : Fram (fun c => c = b ∨ c = bv) H G := g3.weaken fun c _ e => .inl e
      unfold operD
      cases hbo : (burn W).off with
      | true =>
        rw [hbo] at g1
        (repeat (first | (with_reducible apply bindP_intro; (focus (first | with_reducible rfl | (simp only [walkR, get0, getS, Nat.zero_add, Nat.add_zero, Bool.not_true, Bool.not_false, decide_true, decide_false, reduceIte, and_self, Bool.false_eq_true, ld, boolOf_b, q1, hge, g1] <;> with_reducible rfl)))) | (with_reducible apply bind2_intro; (focus (first | with_reducible rfl | (simp only [walkR, get0, getS, Nat.zero_add, Nat.add_zero, Bool.not_true, Bool.not_false, decide_true, decide_false, reduceIte, and_self, Bool.false_eq_true, ld, boolOf_b, q1, hge, g1] <;> with_reducible rfl)))) | with_reducible apply cond_t | with_reducible apply cond_f))
        exact ⟨rfl, .same g2 hXG hXv frG⟩
      | false =>
        rw [hbo] at g1
        obtain ⟨vd, G2, d1, d2⟩ := drop_c (n := n) (lim := lim) (nm := nm) g2 hlb (by omega) hXG hXb hXv (by rw [burn_fs]; omega) (by rw [burn_fs]; exact hn)
        (repeat (first | (with_reducible apply bindP_intro; (focus (first | with_reducible rfl | (simp only [walkR, get0, getS, Nat.zero_add, Nat.add_zero, Bool.not_true, Bool.not_false, decide_true, decide_false, reduceIte, and_self, Bool.false_eq_true, ld, boolOf_b, q1, hge, g1, d1] <;> with_reducible rfl)))) | (with_reducible apply bind2_intro; (focus (first | with_reducible rfl | (simp only [walkR, get0, getS, Nat.zero_add, Nat.add_zero, Bool.not_true, Bool.not_false, decide_true, decide_false, reduceIte, and_self, Bool.false_eq_true, ld, boolOf_b, q1, hge, g1, d1] <;> with_reducible rfl)))) | with_reducible apply cond_t | with_reducible apply cond_f))
        exact ⟨rfl, d2.from frG (.inl rfl) fun c e => e⟩

theorem rRename_c {n lim K : Nat} (h : RefAt X H b bv sl W) (hA : DskOK K W) (hK : K ≤ 50000000) (hXb : X b) (hXv : X bv) (hlb : lim ≤ b) (hlim : lim ≤ H.next) (hX : ∀ c, X c → c < H.next) (hn : W.fs.length + 1 < n) (x y : Str) :
    ∃ v H', Ahs.runT ap (n + 2) lim (.fn 94) [ptr b, .str x, .str y] H = some (v, H') ∧ v = .int .i64 (renameD W x y).1 ∧ ROut X H b bv (renameD W x y).2 H' := by
  refine F94_run a94 ?_
  unfold F94 renameD
  have ld : aload H none (.ptr (some (b, 1))) = some (.bool W.off) := by rw [aload_one h.cells]; rfl
  cases ho : W.off with
  | true =>
    rw [ho] at ld
    (repeat (first | (with_reducible apply bindP_intro; (focus (first | with_reducible rfl | (simp only [walkR, get0, getS, Nat.zero_add, Nat.add_zero, Bool.not_true, Bool.not_false, decide_true, decide_false, reduceIte, and_self, Bool.false_eq_true, ld, boolOf_b] <;> with_reducible rfl)))) | (with_reducible apply bind2_intro; (focus (first | with_reducible rfl | (simp only [walkR, get0, getS, Nat.zero_add, Nat.add_zero, Bool.not_true, Bool.not_false, decide_true, decide_false, reduceIte, and_self, Bool.false_eq_true, ld, boolOf_b] <;> with_reducible rfl)))) | with_reducible apply cond_t | with_reducible apply cond_f))
    exact ⟨rfl, .same h hX hXv (.refl _ _)⟩
  | false =>
    rw [ho] at ld
    simp only [Bool.false_eq_true, if_false]
    cases hr : rightN y with
    | false =>
      (repeat (first | (with_reducible apply bindP_intro; (focus (first | with_reducible rfl | (simp only [walkR, get0, getS, Nat.zero_add, Nat.add_zero, Bool.not_true, Bool.not_false, decide_true, decide_false, reduceIte, and_self, Bool.false_eq_true, ld, boolOf_b, r7right_c, hr] <;> with_reducible rfl)))) | (with_reducible apply bind2_intro; (focus (first | with_reducible rfl | (simp only [walkR, get0, getS, Nat.zero_add, Nat.add_zero, Bool.not_true, Bool.not_false, decide_true, decide_false, reduceIte, and_self, Bool.false_eq_true, ld, boolOf_b, r7right_c, hr] <;> with_reducible rfl)))) | with_reducible apply cond_t | with_reducible apply cond_f))
      exact ⟨rfl, .same h hX hXv (.refl _ _)⟩
    | true =>
      simp only [Bool.true_eq_false, if_false]
      have hl := hA.len
      obtain ⟨q, q1, q2, q3⟩ := find_c (n := n) (lim := lim) h (by omega) (by omega) x
      cases hlk : lk W.fs x with
      | none =>
        have := q2 hlk
        subst this
        have hge : decide ((-1 : Int) < 0) = true := rfl
        rw [onD_none ho hlk]
        (repeat (first | (with_reducible apply bindP_intro; (focus (first | with_reducible rfl | (simp only [walkR, get0, getS, Nat.zero_add, Nat.add_zero, Bool.not_true, Bool.not_false, decide_true, decide_false, reduceIte, and_self, Bool.false_eq_true, ld, boolOf_b, r7right_c, hr, q1, hge] <;> with_reducible rfl)))) | (with_reducible apply bind2_intro; (focus (first | with_reducible rfl | (simp only [walkR, get0, getS, Nat.zero_add, Nat.add_zero, Bool.not_true, Bool.not_false, decide_true, decide_false, reduceIte, and_self, Bool.false_eq_true, ld, boolOf_b, r7right_c, hr, q1, hge] <;> with_reducible rfl)))) | with_reducible apply cond_t | with_reducible apply cond_f))
        exact ⟨rfl, .same h hX hXv (.refl _ _)⟩
      | some f =>
        obtain ⟨i, rfl, hi⟩ := q3 f hlk
        have hge : decide ((i : Int) < 0) = false := dF (by omega)
        rw [onD_some ho hlk]
        obtain ⟨G, g1, g2, g3⟩ := goes_c (n := n) (lim := lim) h hXb hlb ho hA.fuse
        have g3n := g3.next
        have hXG : ∀ c, X c → c < G.next := fun c e => by have := hX c e; omega
        have frG : Fram (fun c => c = b ∨ c = bv) H G := g3.weaken fun c _ e => .inl e
        unfold operD
        cases hbo : (burn W).off with
        | true =>
          rw [hbo] at g1
          (repeat (first | (with_reducible apply bindP_intro; (focus (first | with_reducible rfl | (simp only [walkR, get0, getS, Nat.zero_add, Nat.add_zero, Bool.not_true, Bool.not_false, decide_true, decide_false, reduceIte, and_self, Bool.false_eq_true, ld, boolOf_b, r7right_c, hr, q1, hge, g1] <;> with_reducible rfl)))) | (with_reducible apply bind2_intro; (focus (first | with_reducible rfl | (simp only [walkR, get0, getS, Nat.zero_add, Nat.add_zero, Bool.not_true, Bool.not_false, decide_true, decide_false, reduceIte, and_self, Bool.false_eq_true, ld, boolOf_b, r7right_c, hr, q1, hge, g1] <;> with_reducible rfl)))) | with_reducible apply cond_t | with_reducible apply cond_f))
          exact ⟨rfl, .same g2 hXG hXv frG⟩
        | false =>
          rw [hbo] at g1
          have hi' : (burn W).fs[i]? = some (x, f) := by rw [burn_fs]; exact hi
          obtain ⟨qa, o, bq, rs, e1, rfl, e2, e3, e4⟩ := g2.at' hi'
          have e3c := rfAt_cells e3
          have st1 : astore lim (G.push (.cells z11b428)) 5 (.ptr (some (G.next, 0))) (.agg (rfV x rs f.syn f.cut f.torn)) = some (G.push (.cells (rfV x rs f.syn f.cut f.torn))) := astore_new (cs := z11b428) (x := .agg (rfV x rs f.syn f.cut f.torn)) (by omega) rfl rfl e3c.2
          have kx : Keeps2 G (G.push (.cells (rfV x rs f.syn f.cut f.torn))) := .push _ _
          have nx : (G.push (.cells (rfV x rs f.syn f.cut f.torn))).next = G.next + 1 := Heap.next_push _ _
          have hlt := g2.ltb
          have hbv := hXG bv hXv
          have h1 : RefAt (fun c => X c ∨ c = G.next) (G.push (.cells (rfV x rs f.syn f.cut f.torn))) b bv sl (burn W) := (g2.more fun c hc e => by rcases e with e | e; exact e; omega).keep kx
          have hx1 : RfAt (fun c => X c ∨ c = G.next) (G.push (.cells (rfV x rs f.syn f.cut f.torn))) (rfV x rs f.syn f.cut f.torn) (x, f) := (e3.more fun c hc e => by rcases e with e | e; exact e; omega).keep kx
          obtain ⟨vd, G2, d1, ⟨sl2, bv2, d2, d3, d4⟩, d5⟩ := drop_c (n := n) (lim := lim) (nm := x) h1 hlb (by omega) (fun c e => by rcases e with e | e; have := hXG c e; omega; omega) (.inl hXb) (.inl hXv) (by rw [burn_fs]; omega) (by rw [burn_fs]; omega)
          have cx2 : G2.cells G.next = some (rfV x rs f.syn f.cut f.torn) := d5.cells (cells_push_new G _) (fun e => by rcases e with e | e <;> omega)
          have d5n := d5.next
          have hv2 : bv2 ≠ G.next := by rcases d3 with e | e <;> omega
          have st2 : astore lim G2 1 (.ptr (some (G.next, 0))) (.str y) = some (G2.set G.next (.cells (rfV y rs f.syn f.cut f.torn))) := astore_cell cx2 (by omega) rfl rfl (by show 0 < 5; omega) rfl
          have f3 : Fram (fun c => c = G.next) G2 (G2.set G.next (.cells (rfV y rs f.syn f.cut f.torn))) := .set rfl
          have cx3 : (G2.set G.next (.cells (rfV y rs f.syn f.cut f.torn))).cells G.next = some (rfV y rs f.syn f.cut f.torn) := cells_set_same (by omega)
          have n3 : (G2.set G.next (.cells (rfV y rs f.syn f.cut f.torn))).next = G2.next := Heap.next_set _ _ _
          have h3 := d2.frame f3 (by omega) (fun e => hv2 e) (fun c e => .inl (.inr e))
          have hx3 : RfAt (fun c => (X c ∨ c = G.next) ∨ c = bv2) (G2.set G.next (.cells (rfV y rs f.syn f.cut f.torn))) (rfV y rs f.syn f.cut f.torn) (y, f) := by
            obtain ⟨rs', w0, w1, w2⟩ := hx1
            simp only [List.cons.injEq, true_and, and_true] at w0
            obtain ⟨rfl, _⟩ := w0
            have w1l := w1.lt
            refine ⟨rs, rfl, (w1.frame d5 fun c hc e => w2 c hc (by rcases e with rfl | rfl; exact .inl hXb; exact .inl hXv)).frame f3 fun c hc e => w2 c hc (.inr e), fun c hc e => ?_⟩
            rcases e with e | rfl
            · exact w2 c hc e
            · rcases d3 with rfl | d3
              · exact w2 c hc (.inl hXv)
              · have := w1l c hc; omega
          have hdl : (del x (burn W).fs).length ≤ W.fs.length := by rw [burn_fs]; exact List.length_filter_le _ _
          obtain ⟨vp, G4, p1, p2⟩ := put_c (n := n) (lim := lim) (nm := y) (f := f) (rs := rs) h3 (del_asc (by rw [burn_fs]; exact hA.asc)) hlb (by omega) (fun c e => by
            rcases e with e | rfl
            · rcases e with e | e
              · have := hXG c e; omega
              · omega
            · omega) (.inl (.inl hXb)) (by show (del x (burn W).fs).length ≤ _; omega) (by show (del x (burn W).fs).length < _; omega) hx3
          (repeat (first | (with_reducible apply bindP_intro; (focus (first | with_reducible rfl | (simp only [walkR, get0, getS, Nat.zero_add, Nat.add_zero, Bool.not_true, Bool.not_false, decide_true, decide_false, reduceIte, and_self, Bool.false_eq_true, ld, boolOf_b, r7right_c, hr, q1, hge, g1, aload_one g2.cells, e1, e2, st1, d1, st2, aload_all (n := 5) cx3 rfl, p1] <;> with_reducible rfl)))) | (with_reducible apply bind2_intro; (focus (first | with_reducible rfl | (simp only [walkR, get0, getS, Nat.zero_add, Nat.add_zero, Bool.not_true, Bool.not_false, decide_true, decide_false, reduceIte, and_self, Bool.false_eq_true, ld, boolOf_b, r7right_c, hr, q1, hge, g1, aload_one g2.cells, e1, e2, st1, d1, st2, aload_all (n := 5) cx3 rfl, p1] <;> with_reducible rfl)))) | with_reducible apply cond_t | with_reducible apply cond_f))
          refine ⟨rfl, p2.from (bv := bv) (H := H) ?_ ?_ fun c e => .inl (.inl e)⟩
          · refine (frG.trans ((Fram.of (S := fun c => c = b ∨ c = bv) kx).trans d5 fun c _ e => e) fun c _ e => e).trans f3 fun c hc e => by omega
          · rcases d3 with e | e
            · exact .inl e
            · exact .inr (by omega)

theorem bytes_loop {n lim N : Nat} {K : AVal → Heap → Prop} {x1 : Nat} {nm : Str} {f : Fil} {rs : AVal} (c1 : H.cells x1 = some (rfV nm rs f.syn f.cut f.torn)) (hs : Sl H 1 rs (encR f.recs)) (hb : (bytesF f).length ≤ 1000000000000) (hl : f.recs.length ≤ 1000000000000) (hK : K (.str (bytesF f)) H) :
    ∀ (j i : Nat), f.recs.length < j + i → i ≤ f.recs.length → F99_l0 (Ahs.runT ap n) lim N K j (ptr x1) (.str (f.recs.take i).flatten) (.int .i64 (i : Int)) H
  | 0, i, h, h' => by exfalso; omega
  | j + 1, i, hj, hi => by
    show F99_s0 _ _ _ _ (F99_l0 _ _ _ _ j) _ _ _ _
    unfold F99_s0
    have l1 : aload H none (.ptr (some (x1, 1))) = some rs := by rw [aload_one c1]; rfl
    have l4 : aload H none (.ptr (some (x1, 4))) = some (.str f.torn) := by rw [aload_one c1]; rfl
    have hrl : alen false rs = some (.int .i64 (f.recs.length : Int)) := by rw [hs.len, encR_len]
    unfold bytesF at hb hK
    rw [List.length_append] at hb
    have hadd : ∀ a c : Str, a.length + c.length ≤ 1000000000000 → abin .add (.str a) (.str c) = some (.str (a ++ c)) := by
      intro a c hac
      simp only [abin, abinStr]
      rw [if_neg]
      show ¬ (((a.length + c.length : Nat) : Int) > 9223372036854775807)
      omega
    by_cases hil : i < f.recs.length
    · have hd : decide ((i : Int) < (f.recs.length : Int)) = true := dT (by omega)
      have hx : f.recs[i]? = some f.recs[i] := List.getElem?_eq_getElem hil
      obtain ⟨p1, p2, p3⟩ := sl_at hs (encR_get hx)
      have hi1 : IntKind.i64.wrap ((i : Int) + 1) = ((i + 1 : Nat) : Int) := i64_succ (by omega)
      have htk : (f.recs.take i).flatten ++ f.recs[i] = (f.recs.take (i + 1)).flatten := by
        rw [List.take_succ_eq_append_getElem hil, List.flatten_append]; simp
      have hle := flatten_take_le f.recs (i + 1)
      rw [← htk, List.length_append] at hle
      have ha := hadd (f.recs.take i).flatten f.recs[i] (by omega)
      rw [htk] at ha
      (repeat (first | (with_reducible apply bindP_intro; (focus (first | with_reducible rfl | (simp only [walkR, get0, getS, Nat.zero_add, Nat.add_zero, Bool.not_true, Bool.not_false, decide_true, decide_false, reduceIte, and_self, Bool.false_eq_true, l1, hrl, hd, p2, p3, ha, hi1] <;> with_reducible rfl)))) | (with_reducible apply bind2_intro; (focus (first | with_reducible rfl | (simp only [walkR, get0, getS, Nat.zero_add, Nat.add_zero, Bool.not_true, Bool.not_false, decide_true, decide_false, reduceIte, and_self, Bool.false_eq_true, l1, hrl, hd, p2, p3, ha, hi1] <;> with_reducible rfl)))) | with_reducible apply cond_t | with_reducible apply cond_f))
      exact bytes_loop c1 hs (by unfold bytesF; rw [List.length_append]; exact hb) hl hK j (i + 1) (by omega) (by omega)
    · have hd : decide ((i : Int) < (f.recs.length : Int)) = false := dF (by omega)
      (repeat (first | (with_reducible apply bindP_intro; (focus (first | with_reducible rfl | (simp only [walkR, get0, getS, Nat.zero_add, Nat.add_zero, Bool.not_true, Bool.not_false, decide_true, decide_false, reduceIte, and_self, Bool.false_eq_true, l1, hrl, hd] <;> with_reducible rfl)))) | (with_reducible apply bind2_intro; (focus (first | with_reducible rfl | (simp only [walkR, get0, getS, Nat.zero_add, Nat.add_zero, Bool.not_true, Bool.not_false, decide_true, decide_false, reduceIte, and_self, Bool.false_eq_true, l1, hrl, hd] <;> with_reducible rfl)))) | with_reducible apply cond_t | with_reducible apply cond_f))
      unfold F99_j0
      have ht : f.recs.take i = f.recs := List.take_of_length_le (by omega)
      rw [ht]
      have ha := hadd f.recs.flatten f.torn (by omega)
      (repeat (first | (with_reducible apply bindP_intro; (focus (first | with_reducible rfl | (simp only [walkR, get0, getS, Nat.zero_add, Nat.add_zero, Bool.not_true, Bool.not_false, decide_true, decide_false, reduceIte, and_self, Bool.false_eq_true, l4, ha] <;> with_reducible rfl)))) | (with_reducible apply bind2_intro; (focus (first | with_reducible rfl | (simp only [walkR, get0, getS, Nat.zero_add, Nat.add_zero, Bool.not_true, Bool.not_false, decide_true, decide_false, reduceIte, and_self, Bool.false_eq_true, l4, ha] <;> with_reducible rfl)))) | with_reducible apply cond_t | with_reducible apply cond_f))
      exact hK

theorem rBytes_c {n lim : Nat} {p : Str × Fil} {rs : AVal} (hx : RfAt X H (rfV p.1 rs p.2.syn p.2.cut p.2.torn) p) (hf : FilOK 1000000000000 p.2) (hn : p.2.recs.length < n) :
    ∃ v H', Ahs.runT ap (n + 1) lim (.fn 99) [.agg (rfV p.1 rs p.2.syn p.2.cut p.2.torn)] H = some (v, H') ∧ v = .str (bytesF p.2) ∧ Keeps2 H H' := by
  refine F99_run a99 ?_
  unfold F99
  have hxc := rfAt_cells hx
  have hbx : (rfV p.1 rs p.2.syn p.2.cut p.2.torn).all (fun v => v.one) = true := hxc.2
  have kx : Keeps2 H (H.push (.cells (rfV p.1 rs p.2.syn p.2.cut p.2.torn))) := .push _ _
  obtain ⟨rs', e0, h1, h2⟩ := hx
  simp only [List.cons.injEq, true_and, and_true] at e0
  obtain ⟨rfl, _⟩ := e0
  (repeat (first | (with_reducible apply bindP_intro; (focus (first | with_reducible rfl | (simp only [walkR, get0, getS, Nat.zero_add, Nat.add_zero, Bool.not_true, Bool.not_false, decide_true, decide_false, reduceIte, and_self, Bool.false_eq_true, hbx] <;> with_reducible rfl)))) | (with_reducible apply bind2_intro; (focus (first | with_reducible rfl | (simp only [walkR, get0, getS, Nat.zero_add, Nat.add_zero, Bool.not_true, Bool.not_false, decide_true, decide_false, reduceIte, and_self, Bool.false_eq_true, hbx] <;> with_reducible rfl)))) | with_reducible apply cond_t | with_reducible apply cond_f))
  have := bytes_loop (n := n) (lim := lim) (N := n) (K := fun v H' => v = .str (bytesF p.2) ∧ Keeps2 H H') (x1 := H.next) (nm := p.1) (f := p.2) (rs := rs) (cells_push_new H _) (h1.keep kx).sl hf.bytes hf.many ⟨rfl, kx⟩ n 0 (by omega) (Nat.zero_le _)
  simpa using this

theorem rRead_c {n lim K : Nat} (h : RefAt X H b bv sl W) (hA : DskOK K W) (hK : K ≤ 50000000) (hn : K < n) (nm : Str) :
    ∃ v H', Ahs.runT ap (n + 2) lim (.fn 96) [ptr b, .str nm] H = some (v, H') ∧ v = .tup [.str (readD W nm).1, .int .i64 (readD W nm).2] ∧ Keeps2 H H' := by
  refine F96_run a96 ?_
  unfold F96 readD
  have ld : aload H none (.ptr (some (b, 1))) = some (.bool W.off) := by rw [aload_one h.cells]; rfl
  cases ho : W.off with
  | true =>
    rw [ho] at ld
    (repeat (first | (with_reducible apply bindP_intro; (focus (first | with_reducible rfl | (simp only [walkR, get0, getS, Nat.zero_add, Nat.add_zero, Bool.not_true, Bool.not_false, decide_true, decide_false, reduceIte, and_self, Bool.false_eq_true, ld, boolOf_b] <;> with_reducible rfl)))) | (with_reducible apply bind2_intro; (focus (first | with_reducible rfl | (simp only [walkR, get0, getS, Nat.zero_add, Nat.add_zero, Bool.not_true, Bool.not_false, decide_true, decide_false, reduceIte, and_self, Bool.false_eq_true, ld, boolOf_b] <;> with_reducible rfl)))) | with_reducible apply cond_t | with_reducible apply cond_f))
    exact ⟨rfl, .refl _⟩
  | false =>
    rw [ho] at ld
    have hl := hA.len
    obtain ⟨q, q1, q2, q3⟩ := find_c (n := n) (lim := lim) h (by omega) (by omega) nm
    cases hlk : lk W.fs nm with
    | none =>
      have := q2 hlk
      subst this
      have hge : decide ((-1 : Int) < 0) = true := rfl
      (repeat (first | (with_reducible apply bindP_intro; (focus (first | with_reducible rfl | (simp only [walkR, get0, getS, Nat.zero_add, Nat.add_zero, Bool.not_true, Bool.not_false, decide_true, decide_false, reduceIte, and_self, Bool.false_eq_true, ld, boolOf_b, q1, hge] <;> with_reducible rfl)))) | (with_reducible apply bind2_intro; (focus (first | with_reducible rfl | (simp only [walkR, get0, getS, Nat.zero_add, Nat.add_zero, Bool.not_true, Bool.not_false, decide_true, decide_false, reduceIte, and_self, Bool.false_eq_true, ld, boolOf_b, q1, hge] <;> with_reducible rfl)))) | with_reducible apply cond_t | with_reducible apply cond_f))
      exact ⟨rfl, .refl _⟩
    | some f =>
      obtain ⟨i, rfl, hi⟩ := q3 f hlk
      have hge : decide ((i : Int) < 0) = false := dF (by omega)
      obtain ⟨qa, o, bq, rs, e1, rfl, e2, e3, e4⟩ := h.at' hi
      have hfo := hA.files _ _ (lk_mem hlk)
      have hmy := hfo.many
      obtain ⟨v, G, r1, rfl, r3⟩ := rBytes_c (n := n) (lim := lim) (p := (nm, f)) e3 (hfo.mono (by omega)) (by show f.recs.length < n; omega)
      (repeat (first | (with_reducible apply bindP_intro; (focus (first | with_reducible rfl | (simp only [walkR, get0, getS, Nat.zero_add, Nat.add_zero, Bool.not_true, Bool.not_false, decide_true, decide_false, reduceIte, and_self, Bool.false_eq_true, ld, boolOf_b, q1, hge, aload_one h.cells, e1, e2, r1] <;> with_reducible rfl)))) | (with_reducible apply bind2_intro; (focus (first | with_reducible rfl | (simp only [walkR, get0, getS, Nat.zero_add, Nat.add_zero, Bool.not_true, Bool.not_false, decide_true, decide_false, reduceIte, and_self, Bool.false_eq_true, ld, boolOf_b, q1, hge, aload_one h.cells, e1, e2, r1] <;> with_reducible rfl)))) | with_reducible apply cond_t | with_reducible apply cond_f))
      exact ⟨rfl, r3⟩

theorem RefAt.setb (h : RefAt X H b bv sl W) (hXb : X b) {W' : Dsk} (e : W'.fs = W.fs) : RefAt X (H.set b (.cells [sl, .bool W'.off, .int .i64 (W'.fuse : Int)])) b bv sl W' := by
  obtain ⟨xs, h1, h2⟩ := h.own
  exact ⟨cells_set_same h.ltb, ⟨xs, h1.frame (Fram.set (S := fun c => c = b) rfl) h.ne, by rw [e]; exact h2.frame (Fram.set (S := fun c => c = b) rfl) fun c e => by rw [e]; exact hXb⟩, h.ne⟩

theorem rFuse_c {n lim : Nat} (h : RefAt X H b bv sl W) (hXb : X b) (hXv : X bv) (hlb : lim ≤ b) (hX : ∀ c, X c → c < H.next) (x : Int) :
    ∃ v H', Ahs.runT ap (n + 1) lim (.fn 97) [ptr b, .int .i64 x] H = some (v, H') ∧ ROut X H b bv (fuseD W x) H' := by
  refine F97_run a97 ?_
  unfold F97 F97_j0
  have hlt := h.ltb
  have s1 : astore lim H 1 (.ptr (some (b, 2))) (.int .i64 x) = some (H.set b (.cells [sl, .bool W.off, .int .i64 x])) := astore_cell h.cells hlb rfl rfl (by show 2 < 3; omega) rfl
  have c1 : (H.set b (.cells [sl, .bool W.off, .int .i64 x])).cells b = some [sl, .bool W.off, .int .i64 x] := cells_set_same hlt
  have fin := h.setb hXb (W' := fuseD W x) rfl
  have hXG : ∀ c, X c → c < (H.set b (.cells [sl, .bool (fuseD W x).off, .int .i64 ((fuseD W x).fuse : Int)])).next := fun c e => by rw [Heap.next_set]; exact hX c e
  by_cases h1 : x < 1
  · have hd : decide (x < 1) = true := dT h1
    have s2 : astore lim (H.set b (.cells [sl, .bool W.off, .int .i64 x])) 1 (.ptr (some (b, 2))) (.int .i64 0) = some (H.set b (.cells [sl, .bool W.off, .int .i64 0])) := by
      rw [astore_cell (cs' := [sl, .bool W.off, .int .i64 0]) c1 hlb rfl rfl (by show 2 < 3; omega) rfl]
      simp only [Heap.set, Tr.set_set]
    (repeat (first | (with_reducible apply bindP_intro; (focus (first | with_reducible rfl | (simp only [walkR, get0, getS, Nat.zero_add, Nat.add_zero, Bool.not_true, Bool.not_false, decide_true, decide_false, reduceIte, and_self, Bool.false_eq_true, s1, hd, s2] <;> with_reducible rfl)))) | (with_reducible apply bind2_intro; (focus (first | with_reducible rfl | (simp only [walkR, get0, getS, Nat.zero_add, Nat.add_zero, Bool.not_true, Bool.not_false, decide_true, decide_false, reduceIte, and_self, Bool.false_eq_true, s1, hd, s2] <;> with_reducible rfl)))) | with_reducible apply cond_t | with_reducible apply cond_f))
    have e0 : ((fuseD W x).fuse : Int) = 0 := by show ((x.toNat : Nat) : Int) = 0; omega
    rw [e0] at fin hXG
    exact .same fin hXG hXv (.set (.inl rfl))
  · have hd : decide (x < 1) = false := dF h1
    (repeat (first | (with_reducible apply bindP_intro; (focus (first | with_reducible rfl | (simp only [walkR, get0, getS, Nat.zero_add, Nat.add_zero, Bool.not_true, Bool.not_false, decide_true, decide_false, reduceIte, and_self, Bool.false_eq_true, s1, hd] <;> with_reducible rfl)))) | (with_reducible apply bind2_intro; (focus (first | with_reducible rfl | (simp only [walkR, get0, getS, Nat.zero_add, Nat.add_zero, Bool.not_true, Bool.not_false, decide_true, decide_false, reduceIte, and_self, Bool.false_eq_true, s1, hd] <;> with_reducible rfl)))) | with_reducible apply cond_t | with_reducible apply cond_f))
    have e0 : ((fuseD W x).fuse : Int) = x := by show ((x.toNat : Nat) : Int) = x; omega
    rw [e0] at fin hXG
    exact .same fin hXG hXv (.set (.inl rfl))

end

/-! The document's disk: what its functions come to. Fifth part: what a crash leaves. -/

section
variable {X : Nat → Prop} {H : Heap} {b bv : Nat} {sl : AVal} {W : Dsk}

theorem rl_j0 {n lim N : Nat} {K : AVal → Heap → Prop} {G : Heap} {x1 x6 left : Nat} {nm : Str} {s : AVal} {a : Int} {c : Bool} {t : Str} {rs : List Str} {Z : List AVal} (h1 : G.cells x1 = some (rfV nm s a c t)) (h6 : G.cells x6 = some Z) (hZ : Z.length = 5)
    (hne : x1 ≠ x6) (l1 : lim ≤ x1) (l6 : lim ≤ x6) (hs : Fz G 1 s (encR rs)) (hl : left ≤ rs.length) (hrl : rs.length ≤ 1000000000000) (hlim : lim ≤ G.next)
    (hK : ∀ s2 G', Fz G' 1 s2 (encR (rs.take left)) → (∀ q, slBlk s2 = some q → G.next ≤ q) → Fram (fun q => q = x1 ∨ q = x6) G G' → K (.agg (rfV nm s2 left c t)) G') :
    F116_j0 (Ahs.runT ap n) lim N K (ptr x1) (ptr x6) (.int .i64 (left : Int)) G := by
  unfold F116_j0
  have kE : Keeps2 G (G.push (.cells [])) := .push _ _
  have hfl0 : fillV [] [] = some [] := rfl
  have hrm : room = 140737488355328 := rfl
  have lr1 : aload (G.push (.cells [])) none (.ptr (some (x1, 1))) = some s := by rw [aload_one (kE.cells h1)]; rfl
  obtain ⟨s1, a1, a2, a3⟩ := (hs.keep kE).take (k := left) (by rw [encR_len]; exact hl)
  have htl : ((encR rs).take left).length ≤ rs.length := by rw [List.length_take, encR_len]; exact Nat.min_le_right _ _
  obtain ⟨s2, G2, bo, b1, b2, b3, b4, b5⟩ := copy_c (lim := lim) (bytes := 16) (zero := [.str []]) rfl a2 hlim (by omega) (by omega)
  have ho := b2.one
  have lt1 := Heap.cells_lt h1
  have lt6 := Heap.cells_lt h6
  have b3n := b3.next
  have d1 := b3.cells h1
  have d6 := b3.cells h6
  have t1 : astore lim G2 1 (.ptr (some (x1, 1))) s2 = some (G2.set x1 (.cells (rfV nm s2 a c t))) := astore_cell d1 l1 ho.2 ho.1 (by show 1 < 5; omega) rfl
  have c1 : (G2.set x1 (.cells (rfV nm s2 a c t))).cells x1 = some (rfV nm s2 a c t) := cells_set_same (by omega)
  have t2 : astore lim (G2.set x1 (.cells (rfV nm s2 a c t))) 1 (.ptr (some (x1, 2))) (.int .i64 (left : Int)) = some (G2.set x1 (.cells (rfV nm s2 left c t))) := by
    rw [astore_cell (cs' := rfV nm s2 left c t) c1 l1 rfl rfl (by show 2 < 5; omega) rfl]
    simp only [Heap.set, Tr.set_set]
  have c2 : (G2.set x1 (.cells (rfV nm s2 left c t))).cells x1 = some (rfV nm s2 left c t) := cells_set_same (by omega)
  have c6 : (G2.set x1 (.cells (rfV nm s2 left c t))).cells x6 = some Z := cells_set_other d6 (Ne.symm hne)
  have t3 : astore lim (G2.set x1 (.cells (rfV nm s2 left c t))) 5 (.ptr (some (x6, 0))) (.agg (rfV nm s2 left c t)) = some ((G2.set x1 (.cells (rfV nm s2 left c t))).set x6 (.cells (rfV nm s2 left c t))) := by
    rw [astore_at (x := .agg (rfV nm s2 left c t)) (n := 5) (o := 0) c6 l6 rfl (by rw [hZ]; exact Nat.le_refl _) (rfV_one ho.1 _ _ _ _)]
    show some ((G2.set x1 (.cells (rfV nm s2 left c t))).set x6 (.cells (put Z 0 (rfV nm s2 left c t)))) = _
    rw [put_all (by rw [hZ]; rfl)]
  have c7 : ((G2.set x1 (.cells (rfV nm s2 left c t))).set x6 (.cells (rfV nm s2 left c t))).cells x6 = some (rfV nm s2 left c t) := cells_set_same (by rw [Heap.next_set]; omega)
  have fr : Fram (fun q => q = x1 ∨ q = x6) G2 ((G2.set x1 (.cells (rfV nm s2 left c t))).set x6 (.cells (rfV nm s2 left c t))) := (Fram.set (S := fun q => q = x1 ∨ q = x6) (.inl rfl)).set' (.inl (.inr rfl))
  (repeat (first | (with_reducible apply bindP_intro; (focus (first | with_reducible rfl | (simp only [walkR, get0, getS, Nat.zero_add, Nat.add_zero, Bool.not_true, Bool.not_false, decide_true, decide_false, reduceIte, and_self, Bool.false_eq_true, hfl0, lr1, a1, b1, t1, t2, aload_all (n := 5) c2 rfl, t3, aload_all (n := 5) c7 rfl] <;> with_reducible rfl)))) | (with_reducible apply bind2_intro; (focus (first | with_reducible rfl | (simp only [walkR, get0, getS, Nat.zero_add, Nat.add_zero, Bool.not_true, Bool.not_false, decide_true, decide_false, reduceIte, and_self, Bool.false_eq_true, hfl0, lr1, a1, b1, t1, t2, aload_all (n := 5) c2 rfl, t3, aload_all (n := 5) c7 rfl] <;> with_reducible rfl)))) | with_reducible apply cond_t | with_reducible apply cond_f))
  refine hK s2 _ ?_ b4 ((Fram.of (S := fun q => q = x1 ∨ q = x6) b3).trans fr fun c _ e => e)
  rw [encR_take]
  exact (Own.fz b2).frame fr (fun q hq e => by
    have := b4 q hq
    rcases e with e | e <;> omega)

theorem rLeft_c {n lim : Nat} {nm : Str} {s ks ts : AVal} {f : Fil} {keep torn : List Int} {k : Nat} (hlim : lim ≤ H.next) (hs : Fz H 1 s (encR f.recs)) (hf : FilOK 1000000000000 f) (hsy : f.syn < f.recs.length) (hks : Sl H 1 ks (encI keep)) (hts : Sl H 1 ts (encI torn))
    (ho1 : ks.one = true) (ho2 : ts.one = true) (hi1 : ∀ x ∈ keep, inI64 x) (hi2 : ∀ x ∈ torn, inI64 x) (hkn : keep.length ≤ 1000000) (htn : torn.length ≤ 1000000) :
    ∃ r H', Ahs.runT ap (n + 1) lim (.fn 116) [.agg (rfV nm s f.syn f.cut f.torn), .agg [ks, ts], .int .i64 (k : Int)] H = some (r, H') ∧ Keeps2 H H' ∧
      ∃ s2, r = .agg (rfV nm s2 (leftF f keep torn k).syn (leftF f keep torn k).cut (leftF f keep torn k).torn) ∧ Fz H' 1 s2 (encR (leftF f keep torn k).recs) ∧ ∀ q, slBlk s2 = some q → H.next + 3 ≤ q := by
  have hcut : f.cut = false := by
    cases hc : f.cut with
    | false => rfl
    | true => have := hf.cutS hc; omega
  rw [hcut]
  refine F116_run a116 ?_
  unfold F116
  have hmany := hf.many
  have hsyn := hf.syn
  have hbo : (rfV nm s f.syn false f.torn).all (fun v => v.one) = true := rfV_one hs.one.1 _ _ _ _
  have hb2 : (([ks, ts] : List AVal).all fun v => v.one) = true := by simp only [List.all_cons, List.all_nil, ho1, ho2, Bool.and_true]
  have n1 : (H.push (.cells (rfV nm s f.syn false f.torn))).next = H.next + 1 := Heap.next_push _ _
  have n2 : ((H.push (.cells (rfV nm s f.syn false f.torn))).push (.cells [ks, ts])).next = H.next + 2 := by rw [Heap.next_push, n1]
  have n3 : (((H.push (.cells (rfV nm s f.syn false f.torn))).push (.cells [ks, ts])).push (.cells z11b428)).next = H.next + 3 := by rw [Heap.next_push, n2]
  have k3 : Keeps2 H (((H.push (.cells (rfV nm s f.syn false f.torn))).push (.cells [ks, ts])).push (.cells z11b428)) := ((Keeps2.push _ _).trans (.push _ _)).trans (.push _ _)
  have x1 : (((H.push (.cells (rfV nm s f.syn false f.torn))).push (.cells [ks, ts])).push (.cells z11b428)).cells H.next = some (rfV nm s f.syn false f.torn) := cells_push_old (cells_push_old (cells_push_new H _))
  have x3 : (((H.push (.cells (rfV nm s f.syn false f.torn))).push (.cells [ks, ts])).push (.cells z11b428)).cells (H.push (.cells (rfV nm s f.syn false f.torn))).next = some [ks, ts] := cells_push_old (cells_push_new _ _)
  have x6 : (((H.push (.cells (rfV nm s f.syn false f.torn))).push (.cells [ks, ts])).push (.cells z11b428)).cells ((H.push (.cells (rfV nm s f.syn false f.torn))).push (.cells [ks, ts])).next = some z11b428 := cells_push_new _ _
  generalize hG : (((H.push (.cells (rfV nm s f.syn false f.torn))).push (.cells [ks, ts])).push (.cells z11b428)) = G at *
  have hslt : ∀ q, slBlk s = some q → q < H.next := hs.lt
  have hkl := hks.len
  have htl := hts.len
  rw [encI_len] at hkl htl
  have hsl : alen false s = some (.int .i64 (f.recs.length : Int)) := by rw [hs.sl.len, encR_len]
  have hsG := hs.keep k3
  have hksG := hks.keep k3
  have htsG := hts.keep k3
  let Kf : AVal → Heap → Prop := fun r H' => Keeps2 H H' ∧
      ∃ s2, r = .agg (rfV nm s2 (leftF f keep torn k).syn (leftF f keep torn k).cut (leftF f keep torn k).torn) ∧ Fz H' 1 s2 (encR (leftF f keep torn k).recs) ∧ ∀ q, slBlk s2 = some q → H.next + 3 ≤ q
  -- the tail
  have tail : ∀ L : Nat, L = keptF f keep k → F116_j3 (Ahs.runT ap n) lim n Kf (.int .i64 (k : Int)) (ptr H.next) (ptr (H.push (.cells (rfV nm s f.syn false f.torn))).next) (ptr ((H.push (.cells (rfV nm s f.syn false f.torn))).push (.cells [ks, ts])).next) (.int .i64 (L : Int)) G := by
    intro L hL
    have hle := keptF_le hf.syn keep k
    rw [← hL] at hle
    unfold F116_j3
    -- the end
    have fin : ∀ (G3 : Heap) (cu : Bool) (tn : Str), Keeps2 H G3 → G3.next = H.next + 3 → G3.cells H.next = some (rfV nm s f.syn cu tn) → G3.cells ((H.push (.cells (rfV nm s f.syn false f.torn))).push (.cells [ks, ts])).next = some z11b428 → cu = decide (L < f.recs.length) → tn = tornF f keep torn k →
        F116_j0 (Ahs.runT ap n) lim n Kf (ptr H.next) (ptr ((H.push (.cells (rfV nm s f.syn false f.torn))).push (.cells [ks, ts])).next) (.int .i64 (L : Int)) G3 := by
      intro G3 cu tn q1 q2 q3 q4 q5 q6
      refine rl_j0 q3 q4 rfl (by omega) (by omega) (by omega) (hs.keep q1) hle (by omega) (by omega) ?_
      intro s2 G' e1 e2 e3
      refine ⟨Fram.keeps q1 e3 (fun c hc e => by rcases e with e | e <;> omega), s2, ?_, ?_, fun q hq => by have := e2 q hq; omega⟩
      · simp only [leftF, ← hL, q5, q6, hcut, Bool.false_or]
      · simp only [leftF, ← hL]; exact e1
    have l1 : aload G none (.ptr (some (H.next, 1))) = some s := by rw [aload_one x1]; rfl
    by_cases hLt : L < f.recs.length
    · have hd : decide ((L : Int) < (f.recs.length : Int)) = true := dT (by omega)
      have st : astore lim G 1 (.ptr (some (H.next, 3))) (.bool true) = some (G.set H.next (.cells (rfV nm s f.syn true f.torn))) := astore_cell x1 (by omega) rfl rfl (by show 3 < 5; omega) rfl
      have kG : Keeps2 H (G.set H.next (.cells (rfV nm s f.syn true f.torn))) := k3.setNew (Nat.le_refl _) _
      have y1 : (G.set H.next (.cells (rfV nm s f.syn true f.torn))).cells H.next = some (rfV nm s f.syn true f.torn) := cells_set_same (by omega)
      have y3 : (G.set H.next (.cells (rfV nm s f.syn true f.torn))).cells (H.push (.cells (rfV nm s f.syn false f.torn))).next = some [ks, ts] := cells_set_other x3 (by omega)
      have y6 : (G.set H.next (.cells (rfV nm s f.syn true f.torn))).cells ((H.push (.cells (rfV nm s f.syn false f.torn))).push (.cells [ks, ts])).next = some z11b428 := cells_set_other x6 (by omega)
      have hnG : (G.set H.next (.cells (rfV nm s f.syn true f.torn))).next = H.next + 3 := by rw [Heap.next_set, n3]
      generalize hG2 : G.set H.next (.cells (rfV nm s f.syn true f.torn)) = G2 at *
      have hsG2 := hs.keep kG
      have htsG2 := hts.keep kG
      have hdt : true = decide (L < f.recs.length) := (dT hLt).symm
      (repeat (first | (with_reducible apply bindP_intro; (focus (first | with_reducible rfl | (simp only [walkR, get0, getS, Nat.zero_add, Nat.add_zero, Bool.not_true, Bool.not_false, decide_true, decide_false, reduceIte, and_self, Bool.false_eq_true, l1, hsl, hd, st] <;> with_reducible rfl)))) | (with_reducible apply bind2_intro; (focus (first | with_reducible rfl | (simp only [walkR, get0, getS, Nat.zero_add, Nat.add_zero, Bool.not_true, Bool.not_false, decide_true, decide_false, reduceIte, and_self, Bool.false_eq_true, l1, hsl, hd, st] <;> with_reducible rfl)))) | with_reducible apply cond_t | with_reducible apply cond_f))
      unfold F116_j2
      by_cases hkt : k < torn.length
      · have hdk : decide ((k : Int) < (torn.length : Int)) = true := dT (by omega)
        obtain ⟨p1, p2, p3⟩ := sl_at hsG2.sl (encR_get (List.getElem?_eq_getElem hLt))
        obtain ⟨p4, p5, p6⟩ := sl_at htsG2 (encI_get (List.getElem?_eq_getElem hkt))
        have hne : f.recs[L] ≠ [] := hf.ne _ (List.getElem_mem hLt)
        have hpos : 0 < f.recs[L].length := List.length_pos_iff.2 hne
        have hbl : f.recs[L].length ≤ 1000000000000 := by
          have hb := hf.bytes
          unfold bytesF at hb
          have : f.recs[L].length ≤ f.recs.flatten.length := by
            conv => rhs; rw [← List.take_append_drop L f.recs, List.drop_eq_getElem_cons hLt, List.flatten_append, List.flatten_cons, List.length_append, List.length_append]
            omega
          rw [List.length_append] at hb
          omega
        have htf0 : tornF f keep torn k = (f.recs[L]).take ((torn[k]) % (f.recs[L].length : Int)).toNat := by
          unfold tornF
          rw [← hL, List.getElem?_eq_getElem hLt, List.getElem?_eq_getElem hkt]
        have hti : inI64 torn[k] := hi2 _ (List.getElem_mem hkt)
        generalize f.recs[L] = r at *
        generalize torn[k] = t at *
        have hrem := abin_rem (k := .i64) (a := t) (b := (r.length : Int)) (show ((r.length : Nat) : Int) ≠ 0 by omega)
        have fx := tmod_fix t (show (0 : Int) < (r.length : Int) by omega)
        have e1 := Int.emod_nonneg t (show ((r.length : Nat) : Int) ≠ 0 by omega)
        have e2 := Int.emod_lt_of_pos t (show (0 : Int) < (r.length : Int) by omega)
        have en : ((t % (r.length : Int)).toNat : Int) = t % (r.length : Int) := Int.toNat_of_nonneg e1
        have lG2 : aload G2 none (.ptr (some (H.next, 1))) = some s := by rw [aload_one y1]; rfl
        -- the join
        have j1 : F116_j1 (Ahs.runT ap n) lim n Kf (ptr H.next) (ptr ((H.push (.cells (rfV nm s f.syn false f.torn))).push (.cells [ks, ts])).next) (.int .i64 (L : Int)) (.int .i64 (((t % (r.length : Int)).toNat : Nat) : Int)) G2 := by
          unfold F116_j1
          have sx := asliceStr_take (r := r) (k := (t % (r.length : Int)).toNat) (by omega)
          have sy : astore lim G2 1 (.ptr (some (H.next, 4))) (.str (r.take (t % (r.length : Int)).toNat)) = some (G2.set H.next (.cells (rfV nm s f.syn true (r.take (t % (r.length : Int)).toNat)))) := astore_cell y1 (by omega) rfl rfl (by show 4 < 5; omega) rfl
          (repeat (first | (with_reducible apply bindP_intro; (focus (first | with_reducible rfl | (simp only [walkR, get0, getS, Nat.zero_add, Nat.add_zero, Bool.not_true, Bool.not_false, decide_true, decide_false, reduceIte, and_self, Bool.false_eq_true, lG2, p2, p3, sx, sy] <;> with_reducible rfl)))) | (with_reducible apply bind2_intro; (focus (first | with_reducible rfl | (simp only [walkR, get0, getS, Nat.zero_add, Nat.add_zero, Bool.not_true, Bool.not_false, decide_true, decide_false, reduceIte, and_self, Bool.false_eq_true, lG2, p2, p3, sx, sy] <;> with_reducible rfl)))) | with_reducible apply cond_t | with_reducible apply cond_f))
          exact fin _ true _ (kG.setNew (Nat.le_refl _) _) (by rw [Heap.next_set]; exact hnG) (cells_set_same (by omega)) (cells_set_other y6 (by omega)) hdt htf0.symm
        by_cases hneg : t.tmod (r.length : Int) < 0
        · have hdn : decide (t.tmod (r.length : Int) < 0) = true := dT hneg
          have hww : IntKind.i64.wrap (t.tmod (r.length : Int) + (r.length : Int)) = (((t % (r.length : Int)).toNat : Nat) : Int) := by
            rw [fx.1 hneg, wrap_i64 (by omega) (by omega), en]
          (repeat (first | (with_reducible apply bindP_intro; (focus (first | with_reducible rfl | (simp only [walkR, get0, getS, Nat.zero_add, Nat.add_zero, Bool.not_true, Bool.not_false, decide_true, decide_false, reduceIte, and_self, Bool.false_eq_true, lG2, hsl, hd, aload_one y3, htl, hdk, p2, p3, p5, p6, hrem, hdn, hww] <;> with_reducible rfl)))) | (with_reducible apply bind2_intro; (focus (first | with_reducible rfl | (simp only [walkR, get0, getS, Nat.zero_add, Nat.add_zero, Bool.not_true, Bool.not_false, decide_true, decide_false, reduceIte, and_self, Bool.false_eq_true, lG2, hsl, hd, aload_one y3, htl, hdk, p2, p3, p5, p6, hrem, hdn, hww] <;> with_reducible rfl)))) | with_reducible apply cond_t | with_reducible apply cond_f))
          exact j1
        · have hww : t.tmod (r.length : Int) = (((t % (r.length : Int)).toNat : Nat) : Int) := by rw [fx.2 hneg, en]
          have hdn' : decide ((((t % (r.length : Int)).toNat : Nat) : Int) < 0) = false := dF (by omega)
          (repeat (first | (with_reducible apply bindP_intro; (focus (first | with_reducible rfl | (simp only [walkR, get0, getS, Nat.zero_add, Nat.add_zero, Bool.not_true, Bool.not_false, decide_true, decide_false, reduceIte, and_self, Bool.false_eq_true, lG2, hsl, hd, aload_one y3, htl, hdk, p2, p3, p5, p6, hrem, hww, hdn'] <;> with_reducible rfl)))) | (with_reducible apply bind2_intro; (focus (first | with_reducible rfl | (simp only [walkR, get0, getS, Nat.zero_add, Nat.add_zero, Bool.not_true, Bool.not_false, decide_true, decide_false, reduceIte, and_self, Bool.false_eq_true, lG2, hsl, hd, aload_one y3, htl, hdk, p2, p3, p5, p6, hrem, hww, hdn'] <;> with_reducible rfl)))) | with_reducible apply cond_t | with_reducible apply cond_f))
          exact j1
      · have hdk : decide ((k : Int) < (torn.length : Int)) = false := dF (by omega)
        have lG2 : aload G2 none (.ptr (some (H.next, 1))) = some s := by rw [aload_one y1]; rfl
        (repeat (first | (with_reducible apply bindP_intro; (focus (first | with_reducible rfl | (simp only [walkR, get0, getS, Nat.zero_add, Nat.add_zero, Bool.not_true, Bool.not_false, decide_true, decide_false, reduceIte, and_self, Bool.false_eq_true, lG2, hsl, hd, aload_one y3, htl, hdk] <;> with_reducible rfl)))) | (with_reducible apply bind2_intro; (focus (first | with_reducible rfl | (simp only [walkR, get0, getS, Nat.zero_add, Nat.add_zero, Bool.not_true, Bool.not_false, decide_true, decide_false, reduceIte, and_self, Bool.false_eq_true, lG2, hsl, hd, aload_one y3, htl, hdk] <;> with_reducible rfl)))) | with_reducible apply cond_t | with_reducible apply cond_f))
        refine fin _ true _ kG hnG y1 y6 hdt ?_
        unfold tornF
        rw [List.getElem?_eq_none (l := torn) (by omega)]
        split
        · rename_i heq; simp at heq
        · rfl
    · have hd : decide ((L : Int) < (f.recs.length : Int)) = false := dF (by omega)
      (repeat (first | (with_reducible apply bindP_intro; (focus (first | with_reducible rfl | (simp only [walkR, get0, getS, Nat.zero_add, Nat.add_zero, Bool.not_true, Bool.not_false, decide_true, decide_false, reduceIte, and_self, Bool.false_eq_true, l1, hsl, hd] <;> with_reducible rfl)))) | (with_reducible apply bind2_intro; (focus (first | with_reducible rfl | (simp only [walkR, get0, getS, Nat.zero_add, Nat.add_zero, Bool.not_true, Bool.not_false, decide_true, decide_false, reduceIte, and_self, Bool.false_eq_true, l1, hsl, hd] <;> with_reducible rfl)))) | with_reducible apply cond_t | with_reducible apply cond_f))
      unfold F116_j2
      (repeat (first | (with_reducible apply bindP_intro; (focus (first | with_reducible rfl | (simp only [walkR, get0, getS, Nat.zero_add, Nat.add_zero, Bool.not_true, Bool.not_false, decide_true, decide_false, reduceIte, and_self, Bool.false_eq_true, l1, hsl, hd] <;> with_reducible rfl)))) | (with_reducible apply bind2_intro; (focus (first | with_reducible rfl | (simp only [walkR, get0, getS, Nat.zero_add, Nat.add_zero, Bool.not_true, Bool.not_false, decide_true, decide_false, reduceIte, and_self, Bool.false_eq_true, l1, hsl, hd] <;> with_reducible rfl)))) | with_reducible apply cond_t | with_reducible apply cond_f))
      refine fin _ false _ k3 n3 x1 x6 (dF hLt).symm ?_
      unfold tornF
      rw [← hL, List.getElem?_eq_none (l := f.recs) (by omega)]
  have l2 : aload G none (.ptr (some (H.next, 2))) = some (.int .i64 (f.syn : Int)) := by rw [aload_one x1]; rfl
  have l1 : aload G none (.ptr (some (H.next, 1))) = some s := by rw [aload_one x1]; rfl
  by_cases hk : k < keep.length
  · have hdk : decide ((k : Int) < (keep.length : Int)) = true := dT (by omega)
    obtain ⟨p1, p2, p3⟩ := sl_at hksG (encI_get (List.getElem?_eq_getElem hk))
    have hx : inI64 keep[k] := hi1 _ (List.getElem_mem hk)
    have hkp : keepN f keep k = min keep[k].toNat (f.recs.length - f.syn) := by unfold keepN; rw [List.getElem?_eq_getElem hk]
    generalize keep[k] = kv at *
    by_cases hpos : 0 < kv
    · have hdp : decide ((0 : Int) < kv) = true := dT hpos
      have hsub : IntKind.i64.wrap ((f.recs.length : Int) - (f.syn : Int)) = (f.recs.length : Int) - (f.syn : Int) := wrap_i64 (by omega) (by omega)
      by_cases hlt : kv < (f.recs.length : Int) - (f.syn : Int)
      · have hdl : decide (kv < (f.recs.length : Int) - (f.syn : Int)) = true := dT hlt
        have hw : IntKind.i64.wrap ((f.syn : Int) + kv) = ((keptF f keep k : Nat) : Int) := by
          unfold inI64 at hx
          rw [wrap_i64 (by omega) (by omega)]; unfold keptF; rw [hkp]; omega
        (repeat (first | (with_reducible apply bindP_intro; (focus (first | with_reducible rfl | (simp only [walkR, get0, getS, Nat.zero_add, Nat.add_zero, Bool.not_true, Bool.not_false, decide_true, decide_false, reduceIte, and_self, Bool.false_eq_true, hbo, hb2, hG, l2, aload_one x3, hkl, hdk, p2, p3, hdp, l1, hsl, hsub, hdl, hw] <;> with_reducible rfl)))) | (with_reducible apply bind2_intro; (focus (first | with_reducible rfl | (simp only [walkR, get0, getS, Nat.zero_add, Nat.add_zero, Bool.not_true, Bool.not_false, decide_true, decide_false, reduceIte, and_self, Bool.false_eq_true, hbo, hb2, hG, l2, aload_one x3, hkl, hdk, p2, p3, hdp, l1, hsl, hsub, hdl, hw] <;> with_reducible rfl)))) | with_reducible apply cond_t | with_reducible apply cond_f))
        unfold F116_j4
        rw [hG]
        exact tail _ rfl
      · have hdl : decide (kv < (f.recs.length : Int) - (f.syn : Int)) = false := dF hlt
        have hkk : f.recs.length = keptF f keep k := by unfold keptF; rw [hkp]; omega
        (repeat (first | (with_reducible apply bindP_intro; (focus (first | with_reducible rfl | (simp only [walkR, get0, getS, Nat.zero_add, Nat.add_zero, Bool.not_true, Bool.not_false, decide_true, decide_false, reduceIte, and_self, Bool.false_eq_true, hbo, hb2, hG, l2, aload_one x3, hkl, hdk, p2, p3, hdp, l1, hsl, hsub, hdl] <;> with_reducible rfl)))) | (with_reducible apply bind2_intro; (focus (first | with_reducible rfl | (simp only [walkR, get0, getS, Nat.zero_add, Nat.add_zero, Bool.not_true, Bool.not_false, decide_true, decide_false, reduceIte, and_self, Bool.false_eq_true, hbo, hb2, hG, l2, aload_one x3, hkl, hdk, p2, p3, hdp, l1, hsl, hsub, hdl] <;> with_reducible rfl)))) | with_reducible apply cond_t | with_reducible apply cond_f))
        unfold F116_j4
        rw [hG]
        exact tail _ hkk
    · have hdp : decide ((0 : Int) < kv) = false := dF hpos
      have hkk : f.syn = keptF f keep k := by unfold keptF; rw [hkp]; omega
      (repeat (first | (with_reducible apply bindP_intro; (focus (first | with_reducible rfl | (simp only [walkR, get0, getS, Nat.zero_add, Nat.add_zero, Bool.not_true, Bool.not_false, decide_true, decide_false, reduceIte, and_self, Bool.false_eq_true, hbo, hb2, hG, l2, aload_one x3, hkl, hdk, p2, p3, hdp] <;> with_reducible rfl)))) | (with_reducible apply bind2_intro; (focus (first | with_reducible rfl | (simp only [walkR, get0, getS, Nat.zero_add, Nat.add_zero, Bool.not_true, Bool.not_false, decide_true, decide_false, reduceIte, and_self, Bool.false_eq_true, hbo, hb2, hG, l2, aload_one x3, hkl, hdk, p2, p3, hdp] <;> with_reducible rfl)))) | with_reducible apply cond_t | with_reducible apply cond_f))
      rw [hG]
      exact tail _ hkk
  · have hdk : decide ((k : Int) < (keep.length : Int)) = false := dF (by omega)
    have hkp : keepN f keep k = 0 := by unfold keepN; rw [List.getElem?_eq_none (by omega)]
    (repeat (first | (with_reducible apply bindP_intro; (focus (first | with_reducible rfl | (simp only [walkR, get0, getS, Nat.zero_add, Nat.add_zero, Bool.not_true, Bool.not_false, decide_true, decide_false, reduceIte, and_self, Bool.false_eq_true, hbo, hb2, hG, l2, aload_one x3, hkl, hdk] <;> with_reducible rfl)))) | (with_reducible apply bind2_intro; (focus (first | with_reducible rfl | (simp only [walkR, get0, getS, Nat.zero_add, Nat.add_zero, Bool.not_true, Bool.not_false, decide_true, decide_false, reduceIte, and_self, Bool.false_eq_true, hbo, hb2, hG, l2, aload_one x3, hkl, hdk] <;> with_reducible rfl)))) | with_reducible apply cond_t | with_reducible apply cond_f))
    rw [hG]
    exact tail _ (by unfold keptF; rw [hkp]; rfl)

/-- One file more on a list; what has been touched. -/
theorem out_snoc2 {lim : Nat} {H : Heap} {out : AVal} {xs : List (List AVal)} {bo : Nat} {x : List AVal} (ho : Own H 5 out xs bo) (h5 : x.length = 5) (h1 : (x.all fun v => v.one) = true) (hbo : slBlk out = some bo → lim ≤ bo) (hlen : xs.length ≤ 1000000000) :
    ∃ v' H' bo', fillV z11b428 [(0, 5, .agg x)] = some x ∧ aappend lim (H.push (.cells x)) z11b428 72 false out (.sl (some (H.next, 0)) 1 (.ex 1)) = some (v', H') ∧ Own H' 5 v' (xs ++ [x]) bo' ∧ Fram (fun c => slBlk out = some c) (H.push (.cells x)) H' ∧ H.next < bo' ∧ bo' < H'.next ∧ slBlk v' = some bo' := by
  have hfl : fillV z11b428 [(0, 5, .agg x)] = some x := by
    have hz : z11b428.length = 5 := rfl
    simp only [fillV, agg_cells, h5, hz]
    rw [if_pos ⟨trivial, Nat.le_refl 5⟩, put_all (by rw [h5, hz])]
  have kx : Keeps2 H (H.push (.cells x)) := .push _ _
  have hsrc : source (H.push (.cells x)) 5 (.sl (some (H.next, 0)) 1 (.ex 1)) = some (([x] : List (List AVal)).length, ([x] : List (List AVal)).flatten) := by
    rw [source_new H (by rw [h5]) (by decide)]; simp
  have hrm : room = 140737488355328 := rfl
  have ho' : Own (H.push (.cells x)) 5 out xs bo := by
    rcases ho.2 with ⟨rfl, h2⟩ | ⟨o, cs, rfl, h2, h3, h4⟩ | ⟨rfl, h4⟩
    · exact ⟨ho.1, .inl ⟨rfl, h2⟩⟩
    · exact ⟨ho.1, .inr (.inl ⟨o, cs, rfl, h2, kx.cells h3, h4⟩)⟩
    · exact ⟨ho.1, .inr (.inr ⟨rfl, kx.cells h4⟩)⟩
  obtain ⟨v', H', bo', e1, e2, e3, e4, e5⟩ := own_append (lim := lim) (zero := z11b428) (bytes := 72) ho' rfl (by omega) hsrc (fun y hy => by simp at hy; subst hy; exact ⟨h5, h1⟩) (by simp; omega) (by simp; omega) hbo
  have hb' : H.next < bo' := by
    rcases e4 with ⟨_, h | h⟩ | h
    · simp at h
    · exact h.elim
    · rw [Heap.next_push] at h; omega
  have hsl : slBlk v' = some bo' := by
    rcases e2.2 with ⟨_, h2⟩ | ⟨o, cs, rfl, h2, _⟩ | ⟨rfl, _⟩
    · simp at h2
    · rfl
    · rfl
  exact ⟨v', H', bo', hfl, e1, by simpa using e2, e3, hb', e5 hsl, hsl⟩

theorem rcrash_loop {n lim N : Nat} {keep torn : List Int} {ks ts : AVal} {x3 : Nat} {K : AVal → Heap → Prop} {H0 : Heap} (hl0 : lim ≤ H0.next)
    (ho1 : ks.one = true) (ho2 : ts.one = true) (hi1' : ∀ x ∈ keep, inI64 x) (hi2 : ∀ x ∈ torn, inI64 x) (hkn : keep.length ≤ 1000000) (htn : torn.length ≤ 1000000) (hks : Sl H0 1 ks (encI keep)) (hts : Sl H0 1 ts (encI torn)) (h : RefAt X H0 b bv sl W) (c3 : H0.cells x3 = some [ks, ts]) (hlen : W.fs.length ≤ 100000000) (hf : ∀ y f, (y, f) ∈ W.fs → FilOK 1000000000000 f) (hX : ∀ c, X c → c < H0.next)
    (hK : ∀ out xs bo H', Own H' 5 out xs bo → Keeps2 H0 H' → RfL (fun c => X c ∨ slBlk out = some c) H' xs (crashFs keep torn 0 W.fs) → (slBlk out = some bo → H0.next ≤ bo) → (bo = bv ∧ slBlk out = none ∨ H0.next ≤ bo ∧ bo < H'.next ∧ slBlk out = some bo) → F98_j0 (Ahs.runT ap (n + 1)) lim N K (ptr b) out H') :
    ∀ (j i k : Nat) (out : AVal) (xs : List (List AVal)) (os : Fs) (bo : Nat) (H : Heap), W.fs.length < j + i → i ≤ W.fs.length → k ≤ i → Keeps2 H0 H → Own H 5 out xs bo → RfL (fun c => X c ∨ slBlk out = some c) H xs os → (bo = bv ∧ slBlk out = none ∨ H0.next ≤ bo ∧ bo < H.next ∧ slBlk out = some bo) → os.length ≤ i → crashFs keep torn 0 W.fs = os ++ crashFs keep torn k (W.fs.drop i) →
      F98_l0 (Ahs.runT ap (n + 1)) lim N K j (ptr b) (ptr x3) out (.int .i64 (k : Int)) (.int .i64 (i : Int)) H
  | 0, i, k, out, xs, os, bo, H, hj, hi, _, _, _, _, _, _, _ => by exfalso; omega
  | j + 1, i, k, out, xs, os, bo, H, hj, hi, hki, k0, ho, hR, hbn, hol, hp => by
    show F98_s0 _ _ _ _ (F98_l0 _ _ _ _ j) _ _ _ _ _ _
    unfold F98_s0
    have hH := h.keep k0
    have k0n := k0.next
    have hxl : xs.length ≤ 1000000000 := by rw [hR.len]; omega
    have hol2 : ∀ c, slBlk out = some c → c = bo ∧ H0.next ≤ c ∧ c < H.next := by
      intro c hc
      rcases hbn with ⟨_, e⟩ | ⟨e1, e2, e3⟩
      · rw [e] at hc; simp at hc
      · rw [e3] at hc; simp at hc; subst hc; exact ⟨rfl, e1, e2⟩
    by_cases hil : i < W.fs.length
    · have hd : decide ((i : Int) < (W.fs.length : Int)) = true := dT (by omega)
      have hpp : W.fs[i]? = some W.fs[i] := List.getElem?_eq_getElem hil
      have hfo := hf W.fs[i].1 W.fs[i].2 (List.getElem_mem hil)
      rw [List.drop_eq_getElem_cons hil] at hp
      generalize W.fs[i] = p at hpp hp hfo
      obtain ⟨q, o, bq, rp, e1, rfl, e2, e3, e4⟩ := h.at' hpp
      have e2 := aload_keep k0 e2
      have hi1 : IntKind.i64.wrap ((i : Int) + 1) = ((i + 1 : Nat) : Int) := i64_succ (by omega)
      have e3c := rfAt_cells e3
      obtain ⟨rs', w0, w1, w2⟩ := e3
      simp only [List.cons.injEq, true_and, and_true] at w0
      obtain ⟨rfl, _⟩ := w0
      have w1l := w1.lt
      have st : astore lim (H.push (.cells z11b428)) 5 (.ptr (some (H.next, 0))) (.agg (rfV p.1 rp p.2.syn p.2.cut p.2.torn)) = some (H.push (.cells (rfV p.1 rp p.2.syn p.2.cut p.2.torn))) := astore_new (cs := z11b428) (x := .agg (rfV p.1 rp p.2.syn p.2.cut p.2.torn)) (by omega) rfl rfl e3c.2
      have kx : Keeps2 H (H.push (.cells (rfV p.1 rp p.2.syn p.2.cut p.2.torn))) := .push _ _
      have nx : (H.push (.cells (rfV p.1 rp p.2.syn p.2.cut p.2.torn))).next = H.next + 1 := Heap.next_push _ _
      have l2 : aload (H.push (.cells (rfV p.1 rp p.2.syn p.2.cut p.2.torn))) none (.ptr (some (H.next, 2))) = some (.int .i64 (p.2.syn : Int)) := aload_new1 _ _ _
      have l1 : aload (H.push (.cells (rfV p.1 rp p.2.syn p.2.cut p.2.torn))) none (.ptr (some (H.next, 1))) = some rp := aload_new1 _ _ _
      have hrl : alen false rp = some (.int .i64 (p.2.recs.length : Int)) := by rw [w1.sl.len, encR_len]
      -- the file g, as it is then, is laid behind
      have join : ∀ (G : Heap) (g : Fil) (s : AVal) (k' : Nat), Keeps2 H G → H.next < G.next → G.cells H.next = some (rfV p.1 s g.syn g.cut g.torn) → Fz G 1 s (encR g.recs) → (∀ c, slBlk s = some c → ¬ (X c ∨ slBlk out = some c)) → k' ≤ i + 1 → crashFs keep torn 0 W.fs = os ++ [(p.1, g)] ++ crashFs keep torn k' (W.fs.drop (i + 1)) →
          F98_j1 (Ahs.runT ap (n + 1)) lim N K (F98_l0 (Ahs.runT ap (n + 1)) lim N K j) (ptr b) (ptr x3) out (.int .i64 (k' : Int)) (.int .i64 (i : Int)) (.ptr (some (H.next, 0))) G := by
        intro G g s k' kG hGn cG fG hs hk' hp'
        unfold F98_j1
        have hone : ((rfV p.1 s g.syn g.cut g.torn).all fun v => v.one) = true := rfV_one fG.one.1 _ _ _ _
        have hoG : Own G 5 out xs bo := by
          rcases ho.2 with ⟨e, h2⟩ | ⟨o, cs, e, h2, h3, h4⟩ | ⟨e, h4⟩
          · exact ⟨ho.1, .inl ⟨e, h2⟩⟩
          · exact ⟨ho.1, .inr (.inl ⟨o, cs, e, h2, kG.cells h3, h4⟩)⟩
          · exact ⟨ho.1, .inr (.inr ⟨e, kG.cells h4⟩)⟩
        obtain ⟨v', G2, bo2, a1, a2, a3, a4, a5, a6, a7⟩ := out_snoc2 (lim := lim) hoG (x := rfV p.1 s g.syn g.cut g.torn) rfl hone (fun e => by have := hol2 _ e; omega) hxl
        have kP : Keeps2 G (G.push (.cells (rfV p.1 s g.syn g.cut g.torn))) := .push _ _
        (repeat (first | (with_reducible apply bindP_intro; (focus (first | with_reducible rfl | (simp only [walkR, get0, getS, Nat.zero_add, Nat.add_zero, Bool.not_true, Bool.not_false, decide_true, decide_false, reduceIte, and_self, Bool.false_eq_true, aload_all (n := 5) cG rfl, a1, a2, hi1] <;> with_reducible rfl)))) | (with_reducible apply bind2_intro; (focus (first | with_reducible rfl | (simp only [walkR, get0, getS, Nat.zero_add, Nat.add_zero, Bool.not_true, Bool.not_false, decide_true, decide_false, reduceIte, and_self, Bool.false_eq_true, aload_all (n := 5) cG rfl, a1, a2, hi1] <;> with_reducible rfl)))) | with_reducible apply cond_t | with_reducible apply cond_f))
        have a4n := a4.next
        rw [Heap.next_push] at a4n
        have k02 : Keeps2 H0 G2 := Fram.keeps ((k0.trans kG).trans kP) a4 fun c hc e => by have := hol2 c e; omega
        refine rcrash_loop hl0 ho1 ho2 hi1' hi2 hkn htn hks hts h c3 hlen hf hX hK j (i + 1) k' v' _ (os ++ [(p.1, g)]) bo2 G2 (by omega) (by omega) hk' k02 a3 ?_ (.inr ⟨by omega, a6, a7⟩) (by simp; omega) hp'
        have r1 : RfL (fun c => X c ∨ slBlk out = some c ∨ c = bo2) (G.push (.cells (rfV p.1 s g.syn g.cut g.torn))) (xs ++ [rfV p.1 s g.syn g.cut g.torn]) (os ++ [(p.1, g)]) := by
          refine RfL.snoc (((hR.keep kG).more fun c hc e => ?_).keep kP) ⟨s, rfl, fG.keep kP, fun c hc e => ?_⟩
          · rcases e with e | e | e
            · exact .inl e
            · exact .inr e
            · omega
          · rcases e with e | e | e
            · exact hs c hc (.inl e)
            · exact hs c hc (.inr e)
            · have := fG.lt c hc; omega
        have r2 := r1.frame a4 fun c e => .inr (.inl e)
        exact r2.more fun c _ e => by
          rcases e with e | e
          · exact .inl e
          · rw [a7] at e; simp at e; exact .inr (.inr e.symm)
      by_cases hs : p.2.syn < p.2.recs.length
      · have hds : decide ((p.2.syn : Int) < (p.2.recs.length : Int)) = true := dT (by omega)
        have kkx := k0.trans kx
        obtain ⟨r, G, r1, r2, s2, rfl, r4, r5⟩ := rLeft_c (n := n) (lim := lim) (nm := p.1) (k := k) (by omega) (w1.keep kkx) hfo hs (hks.keep kkx) (hts.keep kkx) ho1 ho2 hi1' hi2 hkn htn
        have r2n := r2.next
        have cG : G.cells H.next = some (rfV p.1 rp p.2.syn p.2.cut p.2.torn) := r2.cells (cells_push_new _ _)
        have st2 : astore lim G 5 (.ptr (some (H.next, 0))) (.agg (rfV p.1 s2 (leftF p.2 keep torn k).syn (leftF p.2 keep torn k).cut (leftF p.2 keep torn k).torn)) = some (G.set H.next (.cells (rfV p.1 s2 (leftF p.2 keep torn k).syn (leftF p.2 keep torn k).cut (leftF p.2 keep torn k).torn))) := by
          rw [astore_at (x := .agg (rfV p.1 s2 (leftF p.2 keep torn k).syn (leftF p.2 keep torn k).cut (leftF p.2 keep torn k).torn)) (n := 5) (o := 0) cG (by omega) rfl (Nat.le_refl _) (rfV_one r4.one.1 _ _ _ _)]
          rfl
        have hkw : IntKind.i64.wrap ((k : Int) + 1) = ((k + 1 : Nat) : Int) := i64_succ (by omega)
        (repeat (first | (with_reducible apply bindP_intro; (focus (first | with_reducible rfl | (simp only [walkR, get0, getS, Nat.zero_add, Nat.add_zero, Bool.not_true, Bool.not_false, decide_true, decide_false, reduceIte, and_self, Bool.false_eq_true, aload_one hH.cells, hH.len, hd, e1, e2, st, l2, l1, hrl, hds, aload_all (n := 5) (cells_push_new H (rfV p.1 rp p.2.syn p.2.cut p.2.torn)) rfl, aload_all (n := 2) (kkx.cells c3) rfl, r1, st2, hkw] <;> with_reducible rfl)))) | (with_reducible apply bind2_intro; (focus (first | with_reducible rfl | (simp only [walkR, get0, getS, Nat.zero_add, Nat.add_zero, Bool.not_true, Bool.not_false, decide_true, decide_false, reduceIte, and_self, Bool.false_eq_true, aload_one hH.cells, hH.len, hd, e1, e2, st, l2, l1, hrl, hds, aload_all (n := 5) (cells_push_new H (rfV p.1 rp p.2.syn p.2.cut p.2.torn)) rfl, aload_all (n := 2) (kkx.cells c3) rfl, r1, st2, hkw] <;> with_reducible rfl)))) | with_reducible apply cond_t | with_reducible apply cond_f))
        refine join _ (leftF p.2 keep torn k) s2 (k + 1) ((kx.trans r2).setNew (Nat.le_refl _) _) (by rw [Heap.next_set]; omega) (cells_set_same (by omega)) (r4.frame (Fram.set (S := fun c => c = H.next) rfl) fun c hc e => by have := r5 c hc; omega) (fun c hc e => ?_) (by omega) ?_
        · have := r5 c hc
          rcases e with e | e
          · have := hX c e; omega
          · have := hol2 c e; omega
        · rw [hp, crashFs, if_pos hs]; simp
      · have hds : decide ((p.2.syn : Int) < (p.2.recs.length : Int)) = false := dF (by omega)
        (repeat (first | (with_reducible apply bindP_intro; (focus (first | with_reducible rfl | (simp only [walkR, get0, getS, Nat.zero_add, Nat.add_zero, Bool.not_true, Bool.not_false, decide_true, decide_false, reduceIte, and_self, Bool.false_eq_true, aload_one hH.cells, hH.len, hd, e1, e2, st, l2, l1, hrl, hds] <;> with_reducible rfl)))) | (with_reducible apply bind2_intro; (focus (first | with_reducible rfl | (simp only [walkR, get0, getS, Nat.zero_add, Nat.add_zero, Bool.not_true, Bool.not_false, decide_true, decide_false, reduceIte, and_self, Bool.false_eq_true, aload_one hH.cells, hH.len, hd, e1, e2, st, l2, l1, hrl, hds] <;> with_reducible rfl)))) | with_reducible apply cond_t | with_reducible apply cond_f))
        refine join _ p.2 rp k kx (by omega) (cells_push_new _ _) (w1.keep (k0.trans kx)) (fun c hc e => ?_) (by omega) ?_
        · rcases e with e | e
          · exact w2 c hc e
          · have := hol2 c e; have := w1l c hc; omega
        · rw [hp, crashFs, if_neg hs]; simp
    · have hd : decide ((i : Int) < (W.fs.length : Int)) = false := dF (by omega)
      rw [List.drop_eq_nil_of_le (by omega)] at hp
      (repeat (first | (with_reducible apply bindP_intro; (focus (first | with_reducible rfl | (simp only [walkR, get0, getS, Nat.zero_add, Nat.add_zero, Bool.not_true, Bool.not_false, decide_true, decide_false, reduceIte, and_self, Bool.false_eq_true, aload_one hH.cells, hH.len, hd] <;> with_reducible rfl)))) | (with_reducible apply bind2_intro; (focus (first | with_reducible rfl | (simp only [walkR, get0, getS, Nat.zero_add, Nat.add_zero, Bool.not_true, Bool.not_false, decide_true, decide_false, reduceIte, and_self, Bool.false_eq_true, aload_one hH.cells, hH.len, hd] <;> with_reducible rfl)))) | with_reducible apply cond_t | with_reducible apply cond_f))
      exact hK out xs bo H ho k0 (by rw [hp]; simpa [crashFs] using hR) (fun e => (hol2 _ e).2.1) hbn

theorem rCrash_c {n lim K : Nat} {keep torn : List Int} {ks ts : AVal} {Hs : Heap} (h : RefAt X H b bv sl W) (hA : DskOK K W) (hK : K ≤ 50000000) (hXb : X b) (hXv : X bv) (hlb : lim ≤ b) (hlim : lim ≤ H.next) (hX : ∀ c, X c → c < H.next) (hn : W.fs.length < n)
    (hks : Sl Hs 1 ks (encI keep)) (hts : Sl Hs 1 ts (encI torn)) (hb0 : Hs.next ≤ b) (ks0 : Keeps2 Hs H) (ho1 : ks.one = true) (ho2 : ts.one = true) (hi1 : ∀ x ∈ keep, inI64 x) (hi2 : ∀ x ∈ torn, inI64 x) (hkn : keep.length ≤ 1000000) (htn : torn.length ≤ 1000000) :
    ∃ v H', Ahs.runT ap (n + 2) lim (.fn 98) [ptr b, .agg [ks, ts]] H = some (v, H') ∧ ROut X H b bv (crashD W keep torn) H' := by
  refine F98_run a98 ?_
  unfold F98
  have hlt := h.ltb
  have hbv := hX bv hXv
  have hb2 : (([ks, ts] : List AVal).all fun v => v.one) = true := by simp only [List.all_cons, List.all_nil, ho1, ho2, Bool.and_true]
  have kx : Keeps2 H (H.push (.cells [ks, ts])) := .push _ _
  have nx : (H.push (.cells [ks, ts])).next = H.next + 1 := Heap.next_push _ _
  have h1 := h.keep kx
  have st : astore lim (H.push (.cells [ks, ts])) 1 (.ptr (some (b, 1))) (.bool true) = some ((H.push (.cells [ks, ts])).set b (.cells [sl, .bool true, .int .i64 (W.fuse : Int)])) := astore_cell h1.cells hlb rfl rfl (by show 1 < 3; omega) rfl
  have h2 : RefAt X ((H.push (.cells [ks, ts])).set b (.cells [sl, .bool true, .int .i64 (W.fuse : Int)])) b bv sl ⟨W.fs, true, W.fuse⟩ := h1.setb hXb (W' := ⟨W.fs, true, W.fuse⟩) rfl
  have f2 : Fram (fun c => c = b) H ((H.push (.cells [ks, ts])).set b (.cells [sl, .bool true, .int .i64 (W.fuse : Int)])) := (Fram.of kx).set' (.inl rfl)
  have cx : ((H.push (.cells [ks, ts])).set b (.cells [sl, .bool true, .int .i64 (W.fuse : Int)])).cells H.next = some [ks, ts] := cells_set_other (cells_push_new H _) (by omega)
  have n2 : ((H.push (.cells [ks, ts])).set b (.cells [sl, .bool true, .int .i64 (W.fuse : Int)])).next = H.next + 1 := by rw [Heap.next_set, nx]
  generalize (H.push (.cells [ks, ts])).set b (.cells [sl, .bool true, .int .i64 (W.fuse : Int)]) = H2 at *
  have ks2 : Keeps2 Hs H2 := Fram.keeps ks0 f2 fun c hc e => by omega
  have hl := hA.len
  (repeat (first | (with_reducible apply bindP_intro; (focus (first | with_reducible rfl | (simp only [walkR, get0, getS, Nat.zero_add, Nat.add_zero, Bool.not_true, Bool.not_false, decide_true, decide_false, reduceIte, and_self, Bool.false_eq_true, hb2, st] <;> with_reducible rfl)))) | (with_reducible apply bind2_intro; (focus (first | with_reducible rfl | (simp only [walkR, get0, getS, Nat.zero_add, Nat.add_zero, Bool.not_true, Bool.not_false, decide_true, decide_false, reduceIte, and_self, Bool.false_eq_true, hb2, st] <;> with_reducible rfl)))) | with_reducible apply cond_t | with_reducible apply cond_f))
  refine rcrash_loop (n := n) (W := ⟨W.fs, true, W.fuse⟩) (x3 := H.next) (H0 := H2) (by omega) ho1 ho2 hi1 hi2 hkn htn (hks.keep ks2) (hts.keep ks2) h2 cx (by show W.fs.length ≤ _; omega) (fun y f hm => (hA.files y f hm).mono (by omega)) (fun c e => by have := hX c e; omega) ?_ (n + 1) 0 0 _ [] [] bv H2 (by show W.fs.length < _; omega) (Nat.zero_le _) (Nat.le_refl _) (.refl _) ⟨fun _ h => by simp at h, .inl ⟨rfl, rfl⟩⟩ .nil (.inl ⟨rfl, rfl⟩) (Nat.zero_le _) (by simp)
  intro out xs bo H' ho k0 hR hbo hbn
  unfold F98_j0
  have k0n := k0.next
  have hc := k0.cells h2.cells
  have hone := ho.one
  have st3 : astore lim H' 1 (.ptr (some (b, 0))) out = some (H'.set b (.cells [out, .bool true, .int .i64 (W.fuse : Int)])) := astore_cell hc hlb hone.2 hone.1 (by show 0 < 3; omega) rfl
  (repeat (first | (with_reducible apply bindP_intro; (focus (first | with_reducible rfl | (simp only [walkR, get0, getS, Nat.zero_add, Nat.add_zero, Bool.not_true, Bool.not_false, decide_true, decide_false, reduceIte, and_self, Bool.false_eq_true, st3] <;> with_reducible rfl)))) | (with_reducible apply bind2_intro; (focus (first | with_reducible rfl | (simp only [walkR, get0, getS, Nat.zero_add, Nat.add_zero, Bool.not_true, Bool.not_false, decide_true, decide_false, reduceIte, and_self, Bool.false_eq_true, st3] <;> with_reducible rfl)))) | with_reducible apply cond_t | with_reducible apply cond_f))
  have fr : Fram (fun c => c = b) H' (H'.set b (.cells [out, .bool true, .int .i64 (W.fuse : Int)])) := .set rfl
  have hbb : bo ≠ b := by
    rcases hbn with ⟨rfl, _⟩ | hbn
    · exact h.ne
    · omega
  have hR2 := hR.frame fr fun c e => by rw [e]; exact .inl hXb
  have hXn : RfL (fun c => X c ∨ c = bo) (H'.set b (.cells [out, .bool true, .int .i64 (W.fuse : Int)])) xs (crashFs keep torn 0 W.fs) := hR2.more fun c _ e => by
    rcases e with e | rfl
    · exact .inl e
    · rcases hbn with ⟨rfl, _⟩ | hbn
      · exact .inl hXv
      · exact .inr hbn.2.2
  refine ⟨⟨out, bo, ⟨cells_set_same (by omega), ⟨xs, ho.frame fr hbb, hXn⟩, hbb⟩, ?_, by rw [Heap.next_set]; omega⟩, ?_⟩
  · rcases hbn with ⟨e, _⟩ | hbn
    · exact .inl e
    · exact .inr (by omega)
  · exact ((f2.weaken (S' := fun c => c = b ∨ c = bv) fun c _ e => .inl e).trans (.of (S := fun c => c = b ∨ c = bv) k0) (fun c _ e => e)).trans fr fun c _ e => .inl e

end
end Go.Proofs.Ytjflpnahjooffaa.disk
