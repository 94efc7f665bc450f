/- What LogsPlays's functions come to: great, does, said, stands. -/
/- What the document's does of an act; do the two stand alike. -/
import Derived.Test.YtpefhojmfcenfaaLgRef
import Derived.Test.YtpefhojmfcenfaaLgAgree
set_option maxRecDepth 100000
set_option linter.unusedVariables false
set_option linter.unusedSimpArgs false
namespace Go.Proofs.Ytpefhojmfcenfaa.logs
open Go.Ahs

/-- The block of a slice that has something. -/
def slBlk1 : AVal → Option Nat
  | .sl (some (b, _)) (_ + 1) _ => some b
  | _ => none

theorem slBlk1_le {v : AVal} {b : Nat} (h : slBlk1 v = some b) : slBlk v = some b := by
  unfold slBlk1 at h
  split at h
  · simpa [slBlk] using h
  · simp at h

theorem Es.blk1 {H : Heap} {v : AVal} {es : List Ent} (h : Es H v es) (hne : es ≠ []) : slBlk v = slBlk1 v := by
  rcases h.at' with ⟨a, c, rfl, _, hn⟩ | ⟨b, o, c, cs, rfl, _⟩
  · exact absurd (List.map_eq_nil_iff.1 hn) hne
  · cases es with
    | nil => exact absurd rfl hne
    | cons e es => rfl

theorem Es.lt1 {H : Heap} {v : AVal} {es : List Ent} (h : Es H v es) {b : Nat} (hb : slBlk1 v = some b) : b < H.next := by
  rcases h.at' with ⟨a, c, rfl, _, hn⟩ | ⟨b', o, c, cs, rfl, _, hc, _⟩
  · unfold slBlk1 at hb
    split at hb
    · rename_i heq; injection heq with _ h2 _; omega
    · simp at hb
  · have := slBlk1_le hb
    simp [slBlk] at this
    subst this
    exact Heap.cells_lt hc

theorem Es.frame1 {S : Nat → Prop} {H H' : Heap} {v : AVal} {es : List Ent} (h : Es H v es) (hf : Fram S H H') (hn : ∀ b, slBlk1 v = some b → ¬ S b) : Es H' v es := by
  by_cases he : es = []
  · subst he
    rcases h.at' with ⟨a, c, rfl, hc, _⟩ | ⟨b, o, c, cs, rfl, hc, _⟩
    · exact Sl.zero H' 13 a c hc
    · exact Sl.zero H' 13 _ c hc
  · exact Sl.frame hf h (fun b hb => hn b (by rw [← h.blk1 he]; exact hb))

/-- What is done to a log. -/
structure Act where
  do_ : Nat
  idx : Nat
  term : Nat
  mem : Nat
  w : AVal
  es : List Ent

def encA (a : Act) : List AVal := [.int .u8 (a.do_ : Int), .int .u64 (a.idx : Int), .int .u64 (a.term : Int), .int .u8 (a.mem : Int), a.w]
theorem encA0 (a : Act) : (encA a)[0]? = some (.int .u8 (a.do_ : Int)) := rfl
theorem encA1 (a : Act) : (encA a)[1]? = some (.int .u64 (a.idx : Int)) := rfl
theorem encA2 (a : Act) : (encA a)[2]? = some (.int .u64 (a.term : Int)) := rfl
theorem encA3 (a : Act) : (encA a)[3]? = some (.int .u8 (a.mem : Int)) := rfl
theorem encA4 (a : Act) : (encA a)[4]? = some a.w := rfl

structure Act.ok (H : Heap) (a : Act) : Prop where
  es : Es H a.w a.es
  ents : ∀ e ∈ a.es, e.ok
  idx : a.idx < 18446744073709551616

theorem Act.ok.keep {H H' : Heap} {a : Act} (h : a.ok H) (hk : Keeps2 H H') : a.ok H' := ⟨h.es.keep hk, h.ents, h.idx⟩
theorem Act.ok.ones {H : Heap} {a : Act} (h : a.ok H) : ((encA a).all fun x => x.one) = true := by
  show (true && (true && (true && (true && (a.w.one && true))))) = true
  rw [(sl_one h.es).1]; rfl

def As (H : Heap) (v : AVal) (l : List Act) : Prop := Sl H 5 v (l.map encA)

section
variable {H : Heap} {v : AVal} {l : List Act}
theorem As.len (h : As H v l) : alen false v = some (.int .i64 (l.length : Nat)) := by
  have := Sl.len h; simpa using this
theorem As.addr (h : As H v l) {k : IntKind} {i : Nat} (hi : i < l.length) : aindexAddr none 5 v (.int k (i : Int)) = some (slot v (i * 5)) := Sl.addr h (by simpa using hi)
theorem As.get (h : As H v l) {i : Nat} (hi : i < l.length) : (l.map encA)[i]? = some (encA l[i]) := by simp [hi]
theorem As.load (h : As H v l) {i : Nat} (hi : i < l.length) : aload H (some 5) (slot v (i * 5)) = some (.agg (encA l[i])) := Sl.load h (h.get hi)
theorem As.faddr (h : As H v l) {i : Nat} (hi : i < l.length) (off : Nat) : faddrO off (slot v (i * 5)) = some (slot v (i * 5 + off)) := faddr_slot h (by simp; omega) _ _
theorem As.idx (h : As H v l) {i : Nat} (hi : i < l.length) : aload H none (slot v (i * 5 + 1)) = some (.int .u64 (l[i].idx : Int)) := Sl.loadf h (h.get hi) (f := 1) (by omega)
theorem As.term (h : As H v l) {i : Nat} (hi : i < l.length) : aload H none (slot v (i * 5 + 2)) = some (.int .u64 (l[i].term : Int)) := Sl.loadf h (h.get hi) (f := 2) (by omega)
theorem As.w (h : As H v l) {i : Nat} (hi : i < l.length) : aload H none (slot v (i * 5 + 4)) = some l[i].w := Sl.loadf h (h.get hi) (f := 4) (by omega)
theorem As.keep {H' : Heap} (hk : Keeps2 H H') (h : As H v l) : As H' v l := Sl.keep hk h
end

def greatA (a : Act) : Bool := greatEs a.es || decide (4611686018427387904 < a.idx)
def greatAs (l : List Act) : Bool := decide (60 < l.length) || l.any greatA

theorem greatA_loop {n lim : Nat} {H : Heap} {v : AVal} {l : List Act} {K : AVal → Heap → Prop} (h : As H v l) (hok : ∀ a ∈ l, a.ok H) (hs : l.length ≤ 60) :
    ∀ (m i : Nat), l.length < m + i → i ≤ l.length → K (.bool ((l.drop i).any greatA)) H → F28_l0 (Ahs.runT ap (n + 100)) lim (n + 100) K m v (.int .i64 (i : Int)) H
  | 0, i, hm, hle, hK => by exfalso; omega
  | m + 1, i, hm, hle, hK => by
    show F28_s0 _ _ _ _ (F28_l0 _ _ _ _ m) v (.int .i64 (i : Int)) H
    unfold F28_s0 F28_j0
    by_cases hi : i < l.length
    · have hd : decide ((i : Int) < (l.length : Int)) = true := dT (by omega)
      have hw : IntKind.i64.wrap ((i : Int) + 1) = ((i + 1 : Nat) : Int) := i64_succ (by omega)
      have g15 : Ahs.runT ap (n + 100) lim (.fn 15) [l[i].w] H = _ := great15 (n := n + 99) (lim := lim) (hok l[i] (List.getElem_mem hi)).es (by omega)
      rw [List.drop_eq_getElem_cons hi, List.any_cons] at hK
      unfold greatA at hK
      cases hg : greatEs l[i].es with
      | true =>
        (repeat (first | (with_reducible apply bindP_intro; (focus (first | with_reducible rfl | (simp only [walkR, get0, getS, Nat.zero_add, Nat.add_zero, Bool.not_true, Bool.not_false, decide_true, decide_false, reduceIte, and_self, Bool.false_eq_true, h.len, hd, h.addr hi, h.faddr hi, h.w hi, g15, hg] <;> with_reducible rfl)))) | (with_reducible apply bind2_intro; (focus (first | with_reducible rfl | (simp only [walkR, get0, getS, Nat.zero_add, Nat.add_zero, Bool.not_true, Bool.not_false, decide_true, decide_false, reduceIte, and_self, Bool.false_eq_true, h.len, hd, h.addr hi, h.faddr hi, h.w hi, g15, hg] <;> with_reducible rfl)))) | with_reducible apply cond_t | with_reducible apply cond_f))
        rw [hg, Bool.true_or, Bool.true_or] at hK
        exact hK
      | false =>
        rw [hg, Bool.false_or] at hK
        by_cases hb : 4611686018427387904 < l[i].idx
        · have hc : decide ((4611686018427387904 : Int) < (l[i].idx : Int)) = true := dT (by omega)
          (repeat (first | (with_reducible apply bindP_intro; (focus (first | with_reducible rfl | (simp only [walkR, get0, getS, Nat.zero_add, Nat.add_zero, Bool.not_true, Bool.not_false, decide_true, decide_false, reduceIte, and_self, Bool.false_eq_true, h.len, hd, h.addr hi, h.faddr hi, h.w hi, g15, hg, h.idx hi, hc] <;> with_reducible rfl)))) | (with_reducible apply bind2_intro; (focus (first | with_reducible rfl | (simp only [walkR, get0, getS, Nat.zero_add, Nat.add_zero, Bool.not_true, Bool.not_false, decide_true, decide_false, reduceIte, and_self, Bool.false_eq_true, h.len, hd, h.addr hi, h.faddr hi, h.w hi, g15, hg, h.idx hi, hc] <;> with_reducible rfl)))) | with_reducible apply cond_t | with_reducible apply cond_f))
          rw [dT hb, Bool.true_or] at hK
          exact hK
        · have hc : decide ((4611686018427387904 : Int) < (l[i].idx : Int)) = false := dF (by omega)
          (repeat (first | (with_reducible apply bindP_intro; (focus (first | with_reducible rfl | (simp only [walkR, get0, getS, Nat.zero_add, Nat.add_zero, Bool.not_true, Bool.not_false, decide_true, decide_false, reduceIte, and_self, Bool.false_eq_true, h.len, hd, h.addr hi, h.faddr hi, h.w hi, g15, hg, h.idx hi, hc, hw] <;> with_reducible rfl)))) | (with_reducible apply bind2_intro; (focus (first | with_reducible rfl | (simp only [walkR, get0, getS, Nat.zero_add, Nat.add_zero, Bool.not_true, Bool.not_false, decide_true, decide_false, reduceIte, and_self, Bool.false_eq_true, h.len, hd, h.addr hi, h.faddr hi, h.w hi, g15, hg, h.idx hi, hc, hw] <;> with_reducible rfl)))) | with_reducible apply cond_t | with_reducible apply cond_f))
          rw [dF hb, Bool.false_or] at hK
          exact greatA_loop h hok hs m (i + 1) (by omega) (by omega) hK
    · have hd : decide ((i : Int) < (l.length : Int)) = false := dF (by omega)
      (repeat (first | (with_reducible apply bindP_intro; (focus (first | with_reducible rfl | (simp only [walkR, get0, getS, Nat.zero_add, Nat.add_zero, Bool.not_true, Bool.not_false, decide_true, decide_false, reduceIte, and_self, Bool.false_eq_true, h.len, hd] <;> with_reducible rfl)))) | (with_reducible apply bind2_intro; (focus (first | with_reducible rfl | (simp only [walkR, get0, getS, Nat.zero_add, Nat.add_zero, Bool.not_true, Bool.not_false, decide_true, decide_false, reduceIte, and_self, Bool.false_eq_true, h.len, hd] <;> with_reducible rfl)))) | with_reducible apply cond_t | with_reducible apply cond_f))
      rw [List.drop_eq_nil_of_le (by omega)] at hK
      exact hK

theorem great28 {n lim : Nat} {H : Heap} {v : AVal} {l : List Act} (h : As H v l) (hok : ∀ a ∈ l, a.ok H) : Ahs.runT ap (n + 101) lim (.fn 28) [v] H = some (.bool (greatAs l), H) := by
  refine run_eqn (F28_run (n := n + 100) a28 ?_)
  unfold F28
  by_cases hl : 60 < l.length
  · have hd : decide ((60 : Int) < (l.length : Int)) = true := dT (by omega)
    (repeat (first | (with_reducible apply bindP_intro; (focus (first | with_reducible rfl | (simp only [walkR, get0, getS, Nat.zero_add, Nat.add_zero, Bool.not_true, Bool.not_false, decide_true, decide_false, reduceIte, and_self, Bool.false_eq_true, h.len, hd] <;> with_reducible rfl)))) | (with_reducible apply bind2_intro; (focus (first | with_reducible rfl | (simp only [walkR, get0, getS, Nat.zero_add, Nat.add_zero, Bool.not_true, Bool.not_false, decide_true, decide_false, reduceIte, and_self, Bool.false_eq_true, h.len, hd] <;> with_reducible rfl)))) | with_reducible apply cond_t | with_reducible apply cond_f))
    unfold greatAs
    rw [dT hl, Bool.true_or]
    exact ⟨rfl, rfl⟩
  · have hd : decide ((60 : Int) < (l.length : Int)) = false := dF (by omega)
    (repeat (first | (with_reducible apply bindP_intro; (focus (first | with_reducible rfl | (simp only [walkR, get0, getS, Nat.zero_add, Nat.add_zero, Bool.not_true, Bool.not_false, decide_true, decide_false, reduceIte, and_self, Bool.false_eq_true, h.len, hd] <;> with_reducible rfl)))) | (with_reducible apply bind2_intro; (focus (first | with_reducible rfl | (simp only [walkR, get0, getS, Nat.zero_add, Nat.add_zero, Bool.not_true, Bool.not_false, decide_true, decide_false, reduceIte, and_self, Bool.false_eq_true, h.len, hd] <;> with_reducible rfl)))) | with_reducible apply cond_t | with_reducible apply cond_f))
    refine greatA_loop h hok (by omega) (n + 100) 0 (by omega) (by omega) ?_
    unfold greatAs
    rw [dF hl, Bool.false_or]
    exact ⟨rfl, rfl⟩

/-! ## What an act comes to -/

structure Told where
  ok : Bool
  at' : Nat
  es : List Ent
  code : Nat

def actP (L : Lg) (a : Act) : Lg :=
  if a.do_ = 0 then (match a.es.head? with | some e => addP L e | none => L)
  else if a.do_ = 1 then (if joinsP L a.idx a.term a.es = true then putP L a.es else L)
  else if a.do_ = 2 then cutP L a.idx
  else if a.do_ = 3 then resetP L a.idx a.term a.mem
  else L

def toldP (L : Lg) (a : Act) : Told :=
  if a.do_ = 0 then (match a.es.head? with | some e => ⟨true, (addE L e).idx, [addE L e], 0⟩ | none => ⟨false, 0, [], 0⟩)
  else if a.do_ = 1 then (if joinsP L a.idx a.term a.es = true then ⟨true, max (a.idx + a.es.length) L.idx, freshP L a.es, 0⟩ else ⟨false, 0, [], 0⟩)
  else if a.do_ = 2 then ⟨false, 0, [], cutCode L a.idx⟩
  else ⟨false, 0, [], 0⟩

section
variable {H : Heap} {bL : Nat} {v w : AVal} {L : Lg}

theorem sl1 (H : Heap) (e : Ent) : Es (H.push (.cells (enc e))) (.sl (some (H.next, 0)) 1 (.ex 1)) [e] :=
  ⟨.inr ⟨H.next, 0, .ex 1, enc e, rfl, Nat.le_refl 1, cells_push_new _ _, Nat.le_refl 13, rfl⟩, fun x hx => by simp at hx; subst hx; rfl⟩

/-- Put, of whatever slice. -/
theorem log20' {n lim : Nat} (h : LogAt H bL v L) (hb : L.idx + L.es.length < 9223372036854775808) (hLs : L.es.length ≤ 900000) {w : AVal} {es : List Ent} (hes : Es H w es) (hok : ∀ e ∈ es, e.ok) (hlen : es.length ≤ 1000) (hn : es.length < n) (hl : lim ≤ H.next)
    (hlow : ∀ c, foot bL v c → lim ≤ c) (hwb : ∀ b, slBlk1 w = some b → ¬ b = bL) {i t : Nat} (hi : i < 9223372036854775808) :
    ∃ r H', Ahs.runT ap (n + 5) lim (.fn 20) [ptr bL, .int .u64 (i : Int), .int .u64 (t : Int), w] H = some (r, H') ∧
      (if joinsP L i t es = true then PutPost H bL v L (freshP L es) (max (i + es.length) L.idx) r H' else r = .tup [.bool false, .int .u64 0, .sl none 0 (.ex 0)] ∧ Keeps2 H H') := by
  by_cases hne : es = []
  · subst hne
    refine F20_run (n := n + 4) a20 ?_
    unfold F20
    refine bind2_of (log57 (n := n) h hb hes hok hl (by omega) (by omega) (t := t) (by omega)) ?_
    rintro _ H1 ⟨rfl, k1⟩
    have h1 := h.keep k1
    have hes1 := hes.keep k1
    cases hj : joinsP L i t [] with
    | false =>
      (repeat (first | (with_reducible apply bindP_intro; (focus (first | with_reducible rfl | (simp only [walkR, get0, getS, Nat.zero_add, Nat.add_zero, Bool.not_true, Bool.not_false, decide_true, decide_false, reduceIte, and_self, Bool.false_eq_true] <;> with_reducible rfl)))) | (with_reducible apply bind2_intro; (focus (first | with_reducible rfl | (simp only [walkR, get0, getS, Nat.zero_add, Nat.add_zero, Bool.not_true, Bool.not_false, decide_true, decide_false, reduceIte, and_self, Bool.false_eq_true] <;> with_reducible rfl)))) | with_reducible apply cond_t | with_reducible apply cond_f))
      simp only [Bool.false_eq_true, if_false, true_and]
      exact k1
    | true =>
      have hwl : IntKind.u64.wrap (([] : List Ent).length : Int) = (([] : List Ent).length : Int) := rfl
      have hw : IntKind.u64.wrap ((i : Int) + (([] : List Ent).length : Int)) = ((i + ([] : List Ent).length : Nat) : Int) := by
        show IntKind.u64.wrap ((i : Int) + 0) = _
        rw [wrap_u64 (by omega) (by omega)]; rfl
      (repeat (first | (with_reducible apply bindP_intro; (focus (first | with_reducible rfl | (simp only [walkR, get0, getS, Nat.zero_add, Nat.add_zero, Bool.not_true, Bool.not_false, decide_true, decide_false, reduceIte, and_self, Bool.false_eq_true, hes1.len, hwl, hw, aload_one h1.cells, max_nat] <;> with_reducible rfl)))) | (with_reducible apply bind2_intro; (focus (first | with_reducible rfl | (simp only [walkR, get0, getS, Nat.zero_add, Nat.add_zero, Bool.not_true, Bool.not_false, decide_true, decide_false, reduceIte, and_self, Bool.false_eq_true, hes1.len, hwl, hw, aload_one h1.cells, max_nat] <;> with_reducible rfl)))) | with_reducible apply cond_t | with_reducible apply cond_f))
      show F20_s0 _ _ _ _ (F20_l0 _ _ _ _ (n + 3)) _ _ _ _ _ _ _ H1
      unfold F20_s0
      have hd : decide ((0 : Int) < (([] : List Ent).length : Int)) = false := rfl
      (repeat (first | (with_reducible apply bindP_intro; (focus (first | with_reducible rfl | (simp only [walkR, get0, getS, Nat.zero_add, Nat.add_zero, Bool.not_true, Bool.not_false, decide_true, decide_false, reduceIte, and_self, Bool.false_eq_true, hd] <;> with_reducible rfl)))) | (with_reducible apply bind2_intro; (focus (first | with_reducible rfl | (simp only [walkR, get0, getS, Nat.zero_add, Nat.add_zero, Bool.not_true, Bool.not_false, decide_true, decide_false, reduceIte, and_self, Bool.false_eq_true, hd] <;> with_reducible rfl)))) | with_reducible apply cond_t | with_reducible apply cond_f))
      unfold F20_j0
      simp only [if_true]
      exact ⟨.sl none 0 (.ex 0), v, 0, rfl, h1, ⟨fun _ h => by simp [freshP] at h, .inl ⟨rfl, rfl⟩⟩, .of k1, fun c hc => .inl hc, fun c hc => by simp [slBlk] at hc⟩
  · exact log20 h hb hLs hes hok hlen hn hl hlow (fun b hbk => hwb b (by rw [← hes.blk1 hne]; exact hbk)) hi

/-- What Does has done. -/
def DoesPost (H : Heap) (bL : Nat) (v : AVal) (L : Lg) (a : Act) (r : AVal) (H' : Heap) : Prop := ∃ v' s, r = .tup [.bool (toldP L a).ok, .int .u64 ((toldP L a).at' : Int), s, .int .i64 ((toldP L a).code : Int)] ∧
  Es H' s (toldP L a).es ∧ LogAt H' bL v' (actP L a) ∧ Fram (foot bL v) H H' ∧ (∀ c, slBlk v' = some c → slBlk v = some c ∨ H.next ≤ c) ∧ (∀ c, slBlk s = some c → H.next ≤ c)

set_option maxHeartbeats 1000000 in
theorem does30 {n lim : Nat} (h : LogAt H bL v L) (hf : L.Fits) (hb : L.idx + L.es.length < 9223372036854775000) (hs : L.es.length ≤ 70000) (hl : lim ≤ H.next) (hlow : ∀ c, foot bL v c → lim ≤ c) {a : Act} (ha : a.ok H) (hae : a.es.length ≤ 1000) (hai : a.idx < 9223372036854775808) (hwb : ∀ b, slBlk1 a.w = some b → ¬ b = bL) :
    ∃ r H', Ahs.runT ap (n + 100000) lim (.fn 30) [ptr bL, .agg (encA a)] H = some (r, H') ∧ DoesPost H bL v L a r H' := by
  refine F30_run (n := n + 99999) a30 ?_
  unfold F30
  have ho := ha.ones
  generalize hH2 : H.push (.cells (encA a)) = H2
  have k2 : Keeps2 H H2 := by rw [← hH2]; exact .push _ _
  have n2 : H2.next = H.next + 1 := by rw [← hH2, Heap.next_push]
  have c2 : H2.cells H.next = some (encA a) := by rw [← hH2]; exact cells_push_new _ _
  have h2 := h.keep k2
  have ha2 := ha.keep k2
  have hlast := hf.last
  have nothing : toldP L a = ⟨false, 0, [], 0⟩ → actP L a = L → DoesPost H bL v L a (.tup [.bool false, .int .u64 0, .sl none 0 (.ex 0), .int .i64 0]) H2 := by
    intro e1 e2
    unfold DoesPost
    rw [e1, e2]
    exact ⟨v, _, rfl, Es.nil, h2, .of k2, fun c hc => .inl hc, fun c hc => by simp [slBlk] at hc⟩
  by_cases d0 : a.do_ = 0
  · have q0 : ((a.do_ : Int) == 0) = true := by rw [d0]; rfl
    have hA : actP L a = (match a.es.head? with | some e => addP L e | none => L) := by unfold actP; rw [if_pos d0]
    have hT : toldP L a = (match a.es.head? with | some e => ⟨true, (addE L e).idx, [addE L e], 0⟩ | none => ⟨false, 0, [], 0⟩) := by unfold toldP; rw [if_pos d0]
    by_cases hlen : 0 < a.es.length
    · have hd : decide ((0 : Int) < (a.es.length : Int)) = true := dT (by omega)
      have hz : aindexAddr none 13 a.w (.int .i64 0) = some (slot a.w (0 * 13)) := ha2.es.addr (k := .i64) hlen
      (repeat (first | (with_reducible apply bindP_intro; (focus (first | with_reducible rfl | (simp only [walkR, get0, getS, Nat.zero_add, Nat.add_zero, Bool.not_true, Bool.not_false, decide_true, decide_false, reduceIte, and_self, Bool.false_eq_true, ho, hH2, aload_one c2, encA0, q0, encA4, ha2.es.len, hd, hz, ha2.es.load hlen] <;> with_reducible rfl)))) | (with_reducible apply bind2_intro; (focus (first | with_reducible rfl | (simp only [walkR, get0, getS, Nat.zero_add, Nat.add_zero, Bool.not_true, Bool.not_false, decide_true, decide_false, reduceIte, and_self, Bool.false_eq_true, ho, hH2, aload_one c2, encA0, q0, encA4, ha2.es.len, hd, hz, ha2.es.load hlen] <;> with_reducible rfl)))) | with_reducible apply cond_t | with_reducible apply cond_f))
      refine bind2_of (log35 (n := n + 99995) h2 (fun c hc => hlow c hc) (by omega) (by omega) a.es[0] (by omega)) ?_
      rintro _ H3 ⟨rfl, ⟨v', hL', hv'⟩, f3⟩
      have n3 := f3.next
      have hhd : a.es.head? = some a.es[0] := by rw [List.head?_eq_getElem?, List.getElem?_eq_getElem hlen]
      have hA' : actP L a = addP L a.es[0] := by
        rw [hA, hhd]
      have hT' : toldP L a = ⟨true, (addE L a.es[0]).idx, [addE L a.es[0]], 0⟩ := by
        rw [hT, hhd]
      have hlen1 : ∀ (K : AVal → Heap → Prop), True := fun _ => trivial
      have st := st13 (lim := lim) (H := H3) (by omega) (addE L a.es[0])
      generalize hH4 : H3.push (.cells (enc (addE L a.es[0]))) = H4 at st
      have k4 : Keeps2 H3 H4 := by rw [← hH4]; exact .push _ _
      have c4 : H4.cells H3.next = some (enc (addE L a.es[0])) := by rw [← hH4]; exact cells_push_new _ _
      have n4 : H4.next = H3.next + 1 := by rw [← hH4, Heap.next_push]
      (repeat (first | (with_reducible apply bindP_intro; (focus (first | with_reducible rfl | (simp only [walkR, get0, getS, Nat.zero_add, Nat.add_zero, Bool.not_true, Bool.not_false, decide_true, decide_false, reduceIte, and_self, Bool.false_eq_true, st, aload_one c4, enc0, ld13b c4, fill1] <;> with_reducible rfl)))) | (with_reducible apply bind2_intro; (focus (first | with_reducible rfl | (simp only [walkR, get0, getS, Nat.zero_add, Nat.add_zero, Bool.not_true, Bool.not_false, decide_true, decide_false, reduceIte, and_self, Bool.false_eq_true, st, aload_one c4, enc0, ld13b c4, fill1] <;> with_reducible rfl)))) | with_reducible apply cond_t | with_reducible apply cond_f))
      unfold DoesPost
      rw [hA', hT']
      have k5 : Keeps2 H4 (H4.push (.cells (enc (addE L a.es[0])))) := .push _ _
      exact ⟨v', _, rfl, sl1 H4 _, hL'.keep (k4.trans k5), ((Fram.of k2).trans f3 (fun c _ e => e)).keeps' (k4.trans k5), fun c hc => .inr (by have := hv' c hc; omega), fun c hc => by simp [slBlk] at hc; omega⟩
    · have hd : decide ((0 : Int) < (a.es.length : Int)) = false := dF (by omega)
      (repeat (first | (with_reducible apply bindP_intro; (focus (first | with_reducible rfl | (simp only [walkR, get0, getS, Nat.zero_add, Nat.add_zero, Bool.not_true, Bool.not_false, decide_true, decide_false, reduceIte, and_self, Bool.false_eq_true, ho, hH2, aload_one c2, encA0, q0, encA4, ha2.es.len, hd] <;> with_reducible rfl)))) | (with_reducible apply bind2_intro; (focus (first | with_reducible rfl | (simp only [walkR, get0, getS, Nat.zero_add, Nat.add_zero, Bool.not_true, Bool.not_false, decide_true, decide_false, reduceIte, and_self, Bool.false_eq_true, ho, hH2, aload_one c2, encA0, q0, encA4, ha2.es.len, hd] <;> with_reducible rfl)))) | with_reducible apply cond_t | with_reducible apply cond_f))
      unfold F30_j0
      have hnil : a.es = [] := List.length_eq_zero_iff.1 (by omega)
      exact nothing (by rw [hT, hnil]; rfl) (by rw [hA, hnil]; rfl)
  · have q0 : ((a.do_ : Int) == 0) = false := by rw [Bool.eq_false_iff]; simp; omega
    by_cases d1 : a.do_ = 1
    · have q1 : ((a.do_ : Int) == 1) = true := by rw [d1]; rfl
      have hA : actP L a = (if joinsP L a.idx a.term a.es = true then putP L a.es else L) := by unfold actP; rw [if_neg d0, if_pos d1]
      have hT : toldP L a = (if joinsP L a.idx a.term a.es = true then ⟨true, max (a.idx + a.es.length) L.idx, freshP L a.es, 0⟩ else ⟨false, 0, [], 0⟩) := by unfold toldP; rw [if_neg d0, if_pos d1]
      (repeat (first | (with_reducible apply bindP_intro; (focus (first | with_reducible rfl | (simp only [walkR, get0, getS, Nat.zero_add, Nat.add_zero, Bool.not_true, Bool.not_false, decide_true, decide_false, reduceIte, and_self, Bool.false_eq_true, ho, hH2, aload_one c2, encA0, q0, q1, encA1, encA2, encA4] <;> with_reducible rfl)))) | (with_reducible apply bind2_intro; (focus (first | with_reducible rfl | (simp only [walkR, get0, getS, Nat.zero_add, Nat.add_zero, Bool.not_true, Bool.not_false, decide_true, decide_false, reduceIte, and_self, Bool.false_eq_true, ho, hH2, aload_one c2, encA0, q0, q1, encA1, encA2, encA4] <;> with_reducible rfl)))) | with_reducible apply cond_t | with_reducible apply cond_f))
      refine bind2_of (log20' (n := n + 99994) (t := a.term) h2 (by omega) (by omega) ha2.es ha2.ents hae (by omega) (by omega) hlow hwb hai) ?_
      rintro r H3 hp
      cases hj : joinsP L a.idx a.term a.es with
      | true =>
        rw [hj] at hp hA hT
        simp only [if_true] at hp hA hT
        obtain ⟨f, v', bf, rfl, hL', of', fr', hv', hf'⟩ := hp
        (repeat (first | (with_reducible apply bindP_intro; (focus (first | with_reducible rfl | (simp only [walkR, get0, getS, Nat.zero_add, Nat.add_zero, Bool.not_true, Bool.not_false, decide_true, decide_false, reduceIte, and_self, Bool.false_eq_true] <;> with_reducible rfl)))) | (with_reducible apply bind2_intro; (focus (first | with_reducible rfl | (simp only [walkR, get0, getS, Nat.zero_add, Nat.add_zero, Bool.not_true, Bool.not_false, decide_true, decide_false, reduceIte, and_self, Bool.false_eq_true] <;> with_reducible rfl)))) | with_reducible apply cond_t | with_reducible apply cond_f))
        unfold DoesPost
        rw [hA, hT]
        exact ⟨v', f, rfl, of'.sl, hL', (Fram.of k2).trans fr' (fun c _ e => e), fun c hc => by rcases hv' c hc with h | h; exact .inl h; exact .inr (by omega), fun c hc => by have := (hf' c hc).1; omega⟩
      | false =>
        rw [hj] at hp hA hT
        simp only [Bool.false_eq_true, if_false] at hp hA hT
        obtain ⟨rfl, k3⟩ := hp
        (repeat (first | (with_reducible apply bindP_intro; (focus (first | with_reducible rfl | (simp only [walkR, get0, getS, Nat.zero_add, Nat.add_zero, Bool.not_true, Bool.not_false, decide_true, decide_false, reduceIte, and_self, Bool.false_eq_true] <;> with_reducible rfl)))) | (with_reducible apply bind2_intro; (focus (first | with_reducible rfl | (simp only [walkR, get0, getS, Nat.zero_add, Nat.add_zero, Bool.not_true, Bool.not_false, decide_true, decide_false, reduceIte, and_self, Bool.false_eq_true] <;> with_reducible rfl)))) | with_reducible apply cond_t | with_reducible apply cond_f))
        unfold DoesPost
        rw [hA, hT]
        exact ⟨v, _, rfl, Es.nil, h2.keep k3, .of (k2.trans k3), fun c hc => .inl hc, fun c hc => by simp [slBlk] at hc⟩
    · have q1 : ((a.do_ : Int) == 1) = false := by rw [Bool.eq_false_iff]; simp; omega
      by_cases d2 : a.do_ = 2
      · have q2 : ((a.do_ : Int) == 2) = true := by rw [d2]; rfl
        have hA : actP L a = cutP L a.idx := by unfold actP; rw [if_neg d0, if_neg d1, if_pos d2]
        have hT : toldP L a = ⟨false, 0, [], cutCode L a.idx⟩ := by unfold toldP; rw [if_neg d0, if_neg d1, if_pos d2]
        (repeat (first | (with_reducible apply bindP_intro; (focus (first | with_reducible rfl | (simp only [walkR, get0, getS, Nat.zero_add, Nat.add_zero, Bool.not_true, Bool.not_false, decide_true, decide_false, reduceIte, and_self, Bool.false_eq_true, ho, hH2, aload_one c2, encA0, q0, q1, q2, encA1] <;> with_reducible rfl)))) | (with_reducible apply bind2_intro; (focus (first | with_reducible rfl | (simp only [walkR, get0, getS, Nat.zero_add, Nat.add_zero, Bool.not_true, Bool.not_false, decide_true, decide_false, reduceIte, and_self, Bool.false_eq_true, ho, hH2, aload_one c2, encA0, q0, q1, q2, encA1] <;> with_reducible rfl)))) | with_reducible apply cond_t | with_reducible apply cond_f))
        refine bind2_of (log24 (n := n + 99994) h2 hf (by omega) (hlow _ (.inl rfl)) (by omega) (by omega) (by omega) (i := a.idx) (by omega)) ?_
        rintro _ H3 ⟨v', rfl, hL', fr', hv'⟩
        (repeat (first | (with_reducible apply bindP_intro; (focus (first | with_reducible rfl | (simp only [walkR, get0, getS, Nat.zero_add, Nat.add_zero, Bool.not_true, Bool.not_false, decide_true, decide_false, reduceIte, and_self, Bool.false_eq_true] <;> with_reducible rfl)))) | (with_reducible apply bind2_intro; (focus (first | with_reducible rfl | (simp only [walkR, get0, getS, Nat.zero_add, Nat.add_zero, Bool.not_true, Bool.not_false, decide_true, decide_false, reduceIte, and_self, Bool.false_eq_true] <;> with_reducible rfl)))) | with_reducible apply cond_t | with_reducible apply cond_f))
        unfold DoesPost
        rw [hA, hT]
        exact ⟨v', _, rfl, Es.nil, hL', (Fram.of k2).trans fr' (fun c _ e => e), fun c hc => by rcases hv' c hc with h | h; exact .inl h; exact .inr (by omega), fun c hc => by simp [slBlk] at hc⟩
      · have q2 : ((a.do_ : Int) == 2) = false := by rw [Bool.eq_false_iff]; simp; omega
        by_cases d3 : a.do_ = 3
        · have q3 : ((a.do_ : Int) == 3) = true := by rw [d3]; rfl
          have hA : actP L a = resetP L a.idx a.term a.mem := by unfold actP; rw [if_neg d0, if_neg d1, if_neg d2, if_pos d3]
          have hT : toldP L a = ⟨false, 0, [], 0⟩ := by unfold toldP; rw [if_neg d0, if_neg d1, if_neg d2]
          (repeat (first | (with_reducible apply bindP_intro; (focus (first | with_reducible rfl | (simp only [walkR, get0, getS, Nat.zero_add, Nat.add_zero, Bool.not_true, Bool.not_false, decide_true, decide_false, reduceIte, and_self, Bool.false_eq_true, ho, hH2, aload_one c2, encA0, q0, q1, q2, q3, encA1, encA2, encA3] <;> with_reducible rfl)))) | (with_reducible apply bind2_intro; (focus (first | with_reducible rfl | (simp only [walkR, get0, getS, Nat.zero_add, Nat.add_zero, Bool.not_true, Bool.not_false, decide_true, decide_false, reduceIte, and_self, Bool.false_eq_true, ho, hH2, aload_one c2, encA0, q0, q1, q2, q3, encA1, encA2, encA3] <;> with_reducible rfl)))) | with_reducible apply cond_t | with_reducible apply cond_f))
          refine bind2_of (log33 (n := n + 99995) h2 (by omega) (hlow _ (.inl rfl)) (by omega) (by omega) (i := a.idx) (t := a.term) (m := a.mem) (by omega)) ?_
          rintro _ H3 ⟨v', rfl, hL', fr', hv'⟩
          unfold F30_j1 F30_j0
          unfold DoesPost
          rw [hA, hT]
          exact ⟨v', _, rfl, Es.nil, hL', (Fram.of k2).trans fr' (fun c _ e => e), fun c hc => .inr (by have := hv' c hc; omega), fun c hc => by simp [slBlk] at hc⟩
        · have q3 : ((a.do_ : Int) == 3) = false := by rw [Bool.eq_false_iff]; simp; omega
          (repeat (first | (with_reducible apply bindP_intro; (focus (first | with_reducible rfl | (simp only [walkR, get0, getS, Nat.zero_add, Nat.add_zero, Bool.not_true, Bool.not_false, decide_true, decide_false, reduceIte, and_self, Bool.false_eq_true, ho, hH2, aload_one c2, encA0, q0, q1, q2, q3] <;> with_reducible rfl)))) | (with_reducible apply bind2_intro; (focus (first | with_reducible rfl | (simp only [walkR, get0, getS, Nat.zero_add, Nat.add_zero, Bool.not_true, Bool.not_false, decide_true, decide_false, reduceIte, and_self, Bool.false_eq_true, ho, hH2, aload_one c2, encA0, q0, q1, q2, q3] <;> with_reducible rfl)))) | with_reducible apply cond_t | with_reducible apply cond_f))
          unfold F30_j1 F30_j0
          exact nothing (by unfold toldP; rw [if_neg d0, if_neg d1, if_neg d2]) (by unfold actP; rw [if_neg d0, if_neg d1, if_neg d2, if_neg d3])

end
end Go.Proofs.Ytpefhojmfcenfaa.logs

set_option maxRecDepth 100000
set_option linter.unusedVariables false
set_option linter.unusedSimpArgs false
namespace Go.Proofs.Ytpefhojmfcenfaa.logs
open Go.Ahs

section
variable {H : Heap} {bL : Nat} {v w : AVal} {L : Lg}

/-- What said tells. -/
def SaidPost (H : Heap) (w : AVal) (L : Lg) (a : Act) (r : AVal) (H' : Heap) : Prop := ∃ w' s, r = .tup [ref (actP L a) w', .bool (toldP L a).ok, .int .u64 ((toldP L a).at' : Int), s, .int .i64 ((toldP L a).code : Int)] ∧
  Es H' w' (actP L a).es ∧ Es H' s (toldP L a).es ∧ Keeps2 H H' ∧ (w' = w ∨ ∀ c, slBlk w' = some c → H.next ≤ c) ∧ (∀ c, slBlk s = some c → H.next ≤ c)

set_option maxHeartbeats 1000000 in
theorem said31 {n lim : Nat} (h : Es H w L.es) (hf : L.Fits) (hb : L.idx + L.es.length < 9223372036854775000) (hs : L.es.length ≤ 70000) (hl : lim ≤ H.next) {a : Act} (ha : a.ok H) (hae : a.es.length ≤ 1000) (hai : a.idx < 9223372036854775808) :
    ∃ r H', Ahs.runT ap (n + 100000) lim (.fn 31) [ref L w, .agg (encA a)] H = some (r, H') ∧ SaidPost H w L a r H' := by
  refine F31_run (n := n + 99999) a31 ?_
  unfold F31
  have ho := ref_ones h
  have hone := sl_one h
  have ho2 := ha.ones
  generalize hH2 : H.push (.cells (refC L w)) = H2
  generalize hH4 : H2.push (.cells (encA a)) = H4
  generalize hH5 : H4.push (.cells z1) = H5
  have k2 : Keeps2 H H2 := by rw [← hH2]; exact .push _ _
  have k4 : Keeps2 H2 H4 := by rw [← hH4]; exact .push _ _
  have k5 : Keeps2 H4 H5 := by rw [← hH5]; exact .push _ _
  have n2 : H2.next = H.next + 1 := by rw [← hH2, Heap.next_push]
  have n4 : H4.next = H.next + 2 := by rw [← hH4, Heap.next_push, n2]
  have n5 : H5.next = H.next + 3 := by rw [← hH5, Heap.next_push, n4]
  have c1 : H5.cells H.next = some (refC L w) := (k4.trans k5).cells (by rw [← hH2]; exact cells_push_new _ _)
  have c3 : H5.cells H2.next = some (encA a) := k5.cells (by rw [← hH4]; exact cells_push_new _ _)
  have c8 : H5.cells H4.next = some z1 := by rw [← hH5]; exact cells_push_new _ _
  have k05 := (k2.trans k4).trans k5
  have h5 := h.keep k05
  have ha5 := ha.keep k05
  have hlast := hf.last
  -- a told log, put into the result
  have fin : ∀ {H6 : Heap} {M : Lg} {x : AVal}, Keeps2 H5 H6 → x.one = true → astore lim H6 4 (ptr H4.next) (ref M x) = some (H6.set H4.next (.cells (refC M x))) ∧ aload (H6.set H4.next (.cells (refC M x))) (some 4) (ptr H4.next) = some (ref M x) ∧ Keeps2 H (H6.set H4.next (.cells (refC M x))) ∧ Fram (fun c => c = H4.next) H6 (H6.set H4.next (.cells (refC M x))) := by
    intro H6 M x k6 hx
    have := k6.next
    exact ⟨stC (k6.cells c8) rfl (by omega) hx, ldC (cells_set_same (by omega)), (k05.trans k6).setNew (by omega) _, Fram.set rfl⟩
  have nothing : toldP L a = ⟨false, 0, [], 0⟩ → actP L a = L → F31_j0 (Ahs.runT ap (n + 99999)) lim (n + 99999) (SaidPost H w L a) (ptr H.next) (ptr H4.next) H5 := by
    intro e1 e2
    obtain ⟨s1, l1, kk, _⟩ := fin (M := L) (x := w) (.refl H5) hone.1
    unfold F31_j0
    (repeat (first | (with_reducible apply bindP_intro; (focus (first | with_reducible rfl | (simp only [walkR, get0, getS, Nat.zero_add, Nat.add_zero, Bool.not_true, Bool.not_false, decide_true, decide_false, reduceIte, and_self, Bool.false_eq_true, ldC c1, s1, l1] <;> with_reducible rfl)))) | (with_reducible apply bind2_intro; (focus (first | with_reducible rfl | (simp only [walkR, get0, getS, Nat.zero_add, Nat.add_zero, Bool.not_true, Bool.not_false, decide_true, decide_false, reduceIte, and_self, Bool.false_eq_true, ldC c1, s1, l1] <;> with_reducible rfl)))) | with_reducible apply cond_t | with_reducible apply cond_f))
    unfold SaidPost
    rw [e1, e2]
    exact ⟨w, _, rfl, h.keep kk, Es.nil, kk, .inl rfl, fun c hc => by simp [slBlk] at hc⟩
  by_cases d0 : a.do_ = 0
  · have q0 : ((a.do_ : Int) == 0) = true := by rw [d0]; rfl
    have hA : actP L a = (match a.es.head? with | some e => addP L e | none => L) := by unfold actP; rw [if_pos d0]
    have hT : toldP L a = (match a.es.head? with | some e => ⟨true, (addE L e).idx, [addE L e], 0⟩ | none => ⟨false, 0, [], 0⟩) := by unfold toldP; rw [if_pos d0]
    by_cases hlen : 0 < a.es.length
    · have hd : decide ((0 : Int) < (a.es.length : Int)) = true := dT (by omega)
      have hz : aindexAddr none 13 a.w (.int .i64 0) = some (slot a.w (0 * 13)) := ha5.es.addr (k := .i64) hlen
      have hhd : a.es.head? = some a.es[0] := by rw [List.head?_eq_getElem?, List.getElem?_eq_getElem hlen]
      have hA' : actP L a = addP L a.es[0] := by rw [hA, hhd]
      have hT' : toldP L a = ⟨true, (addE L a.es[0]).idx, [addE L a.es[0]], 0⟩ := by rw [hT, hhd]
      (repeat (first | (with_reducible apply bindP_intro; (focus (first | with_reducible rfl | (simp only [walkR, get0, getS, Nat.zero_add, Nat.add_zero, Bool.not_true, Bool.not_false, decide_true, decide_false, reduceIte, and_self, Bool.false_eq_true, ho, hH2, ho2, hH4, hH5, aload_one c3, encA0, q0, encA4, ha5.es.len, hd, ldC c1, hz, ha5.es.load hlen] <;> with_reducible rfl)))) | (with_reducible apply bind2_intro; (focus (first | with_reducible rfl | (simp only [walkR, get0, getS, Nat.zero_add, Nat.add_zero, Bool.not_true, Bool.not_false, decide_true, decide_false, reduceIte, and_self, Bool.false_eq_true, ho, hH2, ho2, hH4, hH5, aload_one c3, encA0, q0, encA4, ha5.es.len, hd, ldC c1, hz, ha5.es.load hlen] <;> with_reducible rfl)))) | with_reducible apply cond_t | with_reducible apply cond_f))
      simp only [hH5]
      refine bind2_of (ref61 (n := n + 99997) (lim := H5.next) h5 (by omega) (Nat.le_refl _) a.es[0] (by omega)) ?_
      rintro _ H6 ⟨w', bw, rfl, o6, k6, f6⟩
      have n6 := k6.next
      have st1 : astore lim ((H6.push (.cells z1)).push (.cells z0)) 4 (ptr H6.next) (ref (addP L a.es[0]) w') = some (((H6.push (.cells z1)).push (.cells z0)).set H6.next (.cells (refC (addP L a.es[0]) w'))) := stC (cells_push_old (cells_push_new _ _)) rfl (by omega) o6.one.1
      have n7a : ((H6.push (.cells z1)).push (.cells z0)).next = H6.next + 2 := by rw [Heap.next_push, Heap.next_push]
      have n7b : (H6.push (.cells z1)).next = H6.next + 1 := by rw [Heap.next_push]
      generalize hH8 : ((H6.push (.cells z1)).push (.cells z0)).set H6.next (.cells (refC (addP L a.es[0]) w')) = H8 at st1
      have k8 : Keeps2 H6 H8 := by rw [← hH8]; exact ((Keeps2.push _ _).trans (.push _ _)).setNew (by omega) _
      have n8 : H8.next = H6.next + 2 := by rw [← hH8, Heap.next_set, n7a]
      have x8 : H8.cells (H6.push (.cells z1)).next = some z0 := by rw [← hH8]; exact cells_set_other (cells_push_new _ _) (by omega)
      have y8 : H8.cells H6.next = some (refC (addP L a.es[0]) w') := by rw [← hH8]; exact cells_set_same (by omega)
      have st2 : astore lim H8 13 (ptr (H6.push (.cells z1)).next) (.agg (enc (addE L a.es[0]))) = some (H8.set (H6.push (.cells z1)).next (.cells (enc (addE L a.es[0])))) := astore_whole x8 (by omega) rfl rfl rfl
      generalize hH9 : H8.set (H6.push (.cells z1)).next (.cells (enc (addE L a.es[0]))) = H9 at st2
      have k9 : Keeps2 H6 H9 := by rw [← hH9]; exact k8.setNew (by omega) _
      have n9 : H9.next = H6.next + 2 := by rw [← hH9, Heap.next_set, n8]
      have y9 : H9.cells H6.next = some (refC (addP L a.es[0]) w') := by rw [← hH9]; exact cells_set_other y8 (by omega)
      have x9 : H9.cells (H6.push (.cells z1)).next = some (enc (addE L a.es[0])) := by rw [← hH9]; exact cells_set_same (by omega)
      have ap1 : (apartB (.ptr (some ((H6.push (.cells z1)).next, 0))) (ptr H4.next) && true) = true := by
        simp only [apartB, blkOf, Bool.and_true, Bool.not_eq_true', beq_eq_false_iff_ne]
        omega
      generalize hH10 : H9.push (.cells (enc (addE L a.es[0]))) = H10
      have k10 : Keeps2 H9 H10 := by rw [← hH10]; exact .push _ _
      have e10 : Es H10 (.sl (some (H9.next, 0)) 1 (.ex 1)) [addE L a.es[0]] := by rw [← hH10]; exact sl1 H9 _
      obtain ⟨s11, l11, kk, fr⟩ := fin (H6 := H10) (M := addP L a.es[0]) (x := w') ((k6.trans k9).trans k10) o6.one.1
      (repeat (first | (with_reducible apply bindP_intro; (focus (first | with_reducible rfl | (simp only [walkR, get0, getS, Nat.zero_add, Nat.add_zero, Bool.not_true, Bool.not_false, decide_true, decide_false, reduceIte, and_self, Bool.false_eq_true, st1, st2, ldC y9] <;> with_reducible rfl)))) | (with_reducible apply bind2_intro; (focus (first | with_reducible rfl | (simp only [walkR, get0, getS, Nat.zero_add, Nat.add_zero, Bool.not_true, Bool.not_false, decide_true, decide_false, reduceIte, and_self, Bool.false_eq_true, st1, st2, ldC y9] <;> with_reducible rfl)))) | with_reducible apply cond_t | with_reducible apply cond_f))
      refine ⟨ap1, ?_⟩
      (repeat (first | (with_reducible apply bindP_intro; (focus (first | with_reducible rfl | (simp only [walkR, get0, getS, Nat.zero_add, Nat.add_zero, Bool.not_true, Bool.not_false, decide_true, decide_false, reduceIte, and_self, Bool.false_eq_true, aload_one x9, enc0] <;> with_reducible rfl)))) | (with_reducible apply bind2_intro; (focus (first | with_reducible rfl | (simp only [walkR, get0, getS, Nat.zero_add, Nat.add_zero, Bool.not_true, Bool.not_false, decide_true, decide_false, reduceIte, and_self, Bool.false_eq_true, aload_one x9, enc0] <;> with_reducible rfl)))) | with_reducible apply cond_t | with_reducible apply cond_f))
      refine ⟨ap1, ?_⟩
      (repeat (first | (with_reducible apply bindP_intro; (focus (first | with_reducible rfl | (simp only [walkR, get0, getS, Nat.zero_add, Nat.add_zero, Bool.not_true, Bool.not_false, decide_true, decide_false, reduceIte, and_self, Bool.false_eq_true, ld13b x9, fill1, hH10, s11, l11] <;> with_reducible rfl)))) | (with_reducible apply bind2_intro; (focus (first | with_reducible rfl | (simp only [walkR, get0, getS, Nat.zero_add, Nat.add_zero, Bool.not_true, Bool.not_false, decide_true, decide_false, reduceIte, and_self, Bool.false_eq_true, ld13b x9, fill1, hH10, s11, l11] <;> with_reducible rfl)))) | with_reducible apply cond_t | with_reducible apply cond_f))
      unfold SaidPost
      rw [hA', hT']
      have ew : Es H6 w' (addP L a.es[0]).es := o6.sl
      exact ⟨w', _, rfl, ((ew.keep k9).keep k10).frame1 fr (fun b hb e0 => by have := f6 b (slBlk1_le hb); omega), e10.frame1 fr (fun b hb e0 => by have := slBlk1_le hb; simp [slBlk] at this; omega), kk, .inr (fun c hc => by have := f6 c hc; omega), fun c hc => by simp [slBlk] at hc; omega⟩
    · have hd : decide ((0 : Int) < (a.es.length : Int)) = false := dF (by omega)
      have hnil : a.es = [] := List.length_eq_zero_iff.1 (by omega)
      (repeat (first | (with_reducible apply bindP_intro; (focus (first | with_reducible rfl | (simp only [walkR, get0, getS, Nat.zero_add, Nat.add_zero, Bool.not_true, Bool.not_false, decide_true, decide_false, reduceIte, and_self, Bool.false_eq_true, ho, hH2, ho2, hH4, hH5, aload_one c3, encA0, q0, encA4, ha5.es.len, hd] <;> with_reducible rfl)))) | (with_reducible apply bind2_intro; (focus (first | with_reducible rfl | (simp only [walkR, get0, getS, Nat.zero_add, Nat.add_zero, Bool.not_true, Bool.not_false, decide_true, decide_false, reduceIte, and_self, Bool.false_eq_true, ho, hH2, ho2, hH4, hH5, aload_one c3, encA0, q0, encA4, ha5.es.len, hd] <;> with_reducible rfl)))) | with_reducible apply cond_t | with_reducible apply cond_f))
      simp only [hH5]
      exact nothing (by rw [hT, hnil]; rfl) (by rw [hA, hnil]; rfl)
  · have q0 : ((a.do_ : Int) == 0) = false := by rw [Bool.eq_false_iff]; simp; omega
    by_cases d1 : a.do_ = 1
    · have q1 : ((a.do_ : Int) == 1) = true := by rw [d1]; rfl
      have hA : actP L a = (if joinsP L a.idx a.term a.es = true then putP L a.es else L) := by unfold actP; rw [if_neg d0, if_pos d1]
      have hT : toldP L a = (if joinsP L a.idx a.term a.es = true then ⟨true, max (a.idx + a.es.length) L.idx, freshP L a.es, 0⟩ else ⟨false, 0, [], 0⟩) := by unfold toldP; rw [if_neg d0, if_pos d1]
      (repeat (first | (with_reducible apply bindP_intro; (focus (first | with_reducible rfl | (simp only [walkR, get0, getS, Nat.zero_add, Nat.add_zero, Bool.not_true, Bool.not_false, decide_true, decide_false, reduceIte, and_self, Bool.false_eq_true, ho, hH2, ho2, hH4, hH5, aload_one c3, encA0, q0, q1, ldC c1, encA1, encA2, encA4] <;> with_reducible rfl)))) | (with_reducible apply bind2_intro; (focus (first | with_reducible rfl | (simp only [walkR, get0, getS, Nat.zero_add, Nat.add_zero, Bool.not_true, Bool.not_false, decide_true, decide_false, reduceIte, and_self, Bool.false_eq_true, ho, hH2, ho2, hH4, hH5, aload_one c3, encA0, q0, q1, ldC c1, encA1, encA2, encA4] <;> with_reducible rfl)))) | with_reducible apply cond_t | with_reducible apply cond_f))
      simp only [hH5]
      refine bind2_of (ref62 (n := n + 99997) (lim := lim) (t := a.term) h5 hf (by omega) (by omega) ha5.es ha5.ents hae (by omega) hai) ?_
      rintro r H6 ⟨k6, hp⟩
      have n6 := k6.next
      have kp : Keeps2 H6 (H6.push (.cells z1)) := .push _ _
      have sN : ∀ {M : Lg} {x : AVal}, x.one = true → astore lim (H6.push (.cells z1)) 4 (ptr H6.next) (ref M x) = some (H6.push (.cells (refC M x))) ∧ aload (H6.push (.cells (refC M x))) (some 4) (ptr H6.next) = some (ref M x) := fun hx => ⟨astore_new (by omega) rfl rfl (refC_one _ hx), ldC (cells_push_new _ _)⟩
      cases hj : joinsP L a.idx a.term a.es with
      | true =>
        rw [hj] at hp hA hT
        simp only [if_true] at hp hA hT
        obtain ⟨w', f, bf, rfl, e6, hw', o6, f6⟩ := hp
        obtain ⟨s7, l7⟩ := sN (M := putP L a.es) (x := w') (sl_one e6).1
        have k7 : Keeps2 H6 (H6.push (.cells (refC (putP L a.es) w'))) := .push _ _
        obtain ⟨s8, l8, kk, fr⟩ := fin (M := putP L a.es) (x := w') (k6.trans k7) (sl_one e6).1
        (repeat (first | (with_reducible apply bindP_intro; (focus (first | with_reducible rfl | (simp only [walkR, get0, getS, Nat.zero_add, Nat.add_zero, Bool.not_true, Bool.not_false, decide_true, decide_false, reduceIte, and_self, Bool.false_eq_true, s7, l7, s8, l8] <;> with_reducible rfl)))) | (with_reducible apply bind2_intro; (focus (first | with_reducible rfl | (simp only [walkR, get0, getS, Nat.zero_add, Nat.add_zero, Bool.not_true, Bool.not_false, decide_true, decide_false, reduceIte, and_self, Bool.false_eq_true, s7, l7, s8, l8] <;> with_reducible rfl)))) | with_reducible apply cond_t | with_reducible apply cond_f))
        unfold SaidPost
        rw [hA, hT]
        have ef : Es H6 f (freshP L a.es) := o6.sl
        refine ⟨w', f, rfl, (e6.keep k7).frame1 fr (fun b hb e0 => ?_), (ef.keep k7).frame1 fr (fun b hb e0 => ?_), kk, ?_, fun c hc => by have := f6 c hc; omega⟩
        · have hb' := slBlk1_le hb
          rcases hw' with hw' | hw'
          · rw [hw'] at hb; have := h.lt1 hb; omega
          · have := hw' b hb'; omega
        · have := f6 b (slBlk1_le hb); omega
        · rcases hw' with hw' | hw'
          · exact .inl hw'
          · exact .inr (fun c hc => by have := hw' c hc; omega)
      | false =>
        rw [hj] at hp hA hT
        simp only [Bool.false_eq_true, if_false] at hp hA hT
        subst hp
        obtain ⟨s7, l7⟩ := sN (M := L) (x := w) hone.1
        have k7 : Keeps2 H6 (H6.push (.cells (refC L w))) := .push _ _
        obtain ⟨s8, l8, kk, fr⟩ := fin (M := L) (x := w) (k6.trans k7) hone.1
        (repeat (first | (with_reducible apply bindP_intro; (focus (first | with_reducible rfl | (simp only [walkR, get0, getS, Nat.zero_add, Nat.add_zero, Bool.not_true, Bool.not_false, decide_true, decide_false, reduceIte, and_self, Bool.false_eq_true, s7, l7, s8, l8] <;> with_reducible rfl)))) | (with_reducible apply bind2_intro; (focus (first | with_reducible rfl | (simp only [walkR, get0, getS, Nat.zero_add, Nat.add_zero, Bool.not_true, Bool.not_false, decide_true, decide_false, reduceIte, and_self, Bool.false_eq_true, s7, l7, s8, l8] <;> with_reducible rfl)))) | with_reducible apply cond_t | with_reducible apply cond_f))
        unfold SaidPost
        rw [hA, hT]
        exact ⟨w, _, rfl, h.keep kk, Es.nil, kk, .inl rfl, fun c hc => by simp [slBlk] at hc⟩
    · have q1 : ((a.do_ : Int) == 1) = false := by rw [Bool.eq_false_iff]; simp; omega
      by_cases d2 : a.do_ = 2
      · have q2 : ((a.do_ : Int) == 2) = true := by rw [d2]; rfl
        have hA : actP L a = cutP L a.idx := by unfold actP; rw [if_neg d0, if_neg d1, if_pos d2]
        have hT : toldP L a = ⟨false, 0, [], cutCode L a.idx⟩ := by unfold toldP; rw [if_neg d0, if_neg d1, if_pos d2]
        (repeat (first | (with_reducible apply bindP_intro; (focus (first | with_reducible rfl | (simp only [walkR, get0, getS, Nat.zero_add, Nat.add_zero, Bool.not_true, Bool.not_false, decide_true, decide_false, reduceIte, and_self, Bool.false_eq_true, ho, hH2, ho2, hH4, hH5, aload_one c3, encA0, q0, q1, q2, ldC c1, encA1] <;> with_reducible rfl)))) | (with_reducible apply bind2_intro; (focus (first | with_reducible rfl | (simp only [walkR, get0, getS, Nat.zero_add, Nat.add_zero, Bool.not_true, Bool.not_false, decide_true, decide_false, reduceIte, and_self, Bool.false_eq_true, ho, hH2, ho2, hH4, hH5, aload_one c3, encA0, q0, q1, q2, ldC c1, encA1] <;> with_reducible rfl)))) | with_reducible apply cond_t | with_reducible apply cond_f))
        simp only [hH5]
        refine bind2_of (ref63 (n := n + 99995) (lim := lim) (i := a.idx) h5 hf (by omega) (by omega) (by omega)) ?_
        rintro r H6 ⟨g, rfl, k6, g1, g2⟩
        have n6 := k6.next
        have sN : ∀ {M : Lg} {x : AVal}, x.one = true → astore lim (H6.push (.cells z1)) 4 (ptr H6.next) (ref M x) = some (H6.push (.cells (refC M x))) ∧ aload (H6.push (.cells (refC M x))) (some 4) (ptr H6.next) = some (ref M x) := fun hx => ⟨astore_new (by omega) rfl rfl (refC_one _ hx), ldC (cells_push_new _ _)⟩
        by_cases hc : cutCode L a.idx = 0
        · obtain ⟨w', bw, rfl, o6, _, f6⟩ := g2 hc
          obtain ⟨s7, l7⟩ := sN (M := cutP L a.idx) (x := w') o6.one.1
          have k7 : Keeps2 H6 (H6.push (.cells (refC (cutP L a.idx) w'))) := .push _ _
          obtain ⟨s8, l8, kk, fr⟩ := fin (M := cutP L a.idx) (x := w') (k6.trans k7) o6.one.1
          have ew : Es H6 w' (cutP L a.idx).es := o6.sl
          (repeat (first | (with_reducible apply bindP_intro; (focus (first | with_reducible rfl | (simp only [walkR, get0, getS, Nat.zero_add, Nat.add_zero, Bool.not_true, Bool.not_false, decide_true, decide_false, reduceIte, and_self, Bool.false_eq_true, s7, l7, s8, l8] <;> with_reducible rfl)))) | (with_reducible apply bind2_intro; (focus (first | with_reducible rfl | (simp only [walkR, get0, getS, Nat.zero_add, Nat.add_zero, Bool.not_true, Bool.not_false, decide_true, decide_false, reduceIte, and_self, Bool.false_eq_true, s7, l7, s8, l8] <;> with_reducible rfl)))) | with_reducible apply cond_t | with_reducible apply cond_f))
          unfold SaidPost
          rw [hA, hT]
          exact ⟨w', _, rfl, (ew.keep k7).frame1 fr (fun b hb e0 => by have := f6 b (slBlk1_le hb); omega), Es.nil, kk, .inr (fun c hc => by have := f6 c hc; omega), fun c hc => by simp [slBlk] at hc⟩
        · have hg := g1 hc
          subst hg
          have hL : cutP L a.idx = L := by unfold cutP; rw [if_neg hc]
          obtain ⟨s7, l7⟩ := sN (M := L) (x := w) hone.1
          have k7 : Keeps2 H6 (H6.push (.cells (refC L w))) := .push _ _
          obtain ⟨s8, l8, kk, fr⟩ := fin (M := L) (x := w) (k6.trans k7) hone.1
          (repeat (first | (with_reducible apply bindP_intro; (focus (first | with_reducible rfl | (simp only [walkR, get0, getS, Nat.zero_add, Nat.add_zero, Bool.not_true, Bool.not_false, decide_true, decide_false, reduceIte, and_self, Bool.false_eq_true, s7, l7, s8, l8] <;> with_reducible rfl)))) | (with_reducible apply bind2_intro; (focus (first | with_reducible rfl | (simp only [walkR, get0, getS, Nat.zero_add, Nat.add_zero, Bool.not_true, Bool.not_false, decide_true, decide_false, reduceIte, and_self, Bool.false_eq_true, s7, l7, s8, l8] <;> with_reducible rfl)))) | with_reducible apply cond_t | with_reducible apply cond_f))
          unfold SaidPost
          rw [hA, hT, hL]
          exact ⟨w, _, rfl, h.keep kk, Es.nil, kk, .inl rfl, fun c hc => by simp [slBlk] at hc⟩
      · have q2 : ((a.do_ : Int) == 2) = false := by rw [Bool.eq_false_iff]; simp; omega
        by_cases d3 : a.do_ = 3
        · have q3 : ((a.do_ : Int) == 3) = true := by rw [d3]; rfl
          have hA : actP L a = resetP L a.idx a.term a.mem := by unfold actP; rw [if_neg d0, if_neg d1, if_neg d2, if_pos d3]
          have hT : toldP L a = ⟨false, 0, [], 0⟩ := by unfold toldP; rw [if_neg d0, if_neg d1, if_neg d2]
          (repeat (first | (with_reducible apply bindP_intro; (focus (first | with_reducible rfl | (simp only [walkR, get0, getS, Nat.zero_add, Nat.add_zero, Bool.not_true, Bool.not_false, decide_true, decide_false, reduceIte, and_self, Bool.false_eq_true, ho, hH2, ho2, hH4, hH5, aload_one c3, encA0, q0, q1, q2, q3, ldC c1, encA1, encA2, encA3] <;> with_reducible rfl)))) | (with_reducible apply bind2_intro; (focus (first | with_reducible rfl | (simp only [walkR, get0, getS, Nat.zero_add, Nat.add_zero, Bool.not_true, Bool.not_false, decide_true, decide_false, reduceIte, and_self, Bool.false_eq_true, ho, hH2, ho2, hH4, hH5, aload_one c3, encA0, q0, q1, q2, q3, ldC c1, encA1, encA2, encA3] <;> with_reducible rfl)))) | with_reducible apply cond_t | with_reducible apply cond_f))
          simp only [hH5]
          refine bind2_of (ref64 (n := n + 99997) (lim := lim) (i := a.idx) (t := a.term) (m := a.mem) h5 hf (by omega) (by omega) (by omega)) ?_
          rintro r H6 ⟨w', bw, rfl, o6, k6, f6⟩
          have n6 := k6.next
          obtain ⟨s8, l8, kk, fr⟩ := fin (M := resetP L a.idx a.term a.mem) (x := w') k6 o6.one.1
          have ew : Es H6 w' (resetP L a.idx a.term a.mem).es := o6.sl
          (repeat (first | (with_reducible apply bindP_intro; (focus (first | with_reducible rfl | (simp only [walkR, get0, getS, Nat.zero_add, Nat.add_zero, Bool.not_true, Bool.not_false, decide_true, decide_false, reduceIte, and_self, Bool.false_eq_true, s8, l8] <;> with_reducible rfl)))) | (with_reducible apply bind2_intro; (focus (first | with_reducible rfl | (simp only [walkR, get0, getS, Nat.zero_add, Nat.add_zero, Bool.not_true, Bool.not_false, decide_true, decide_false, reduceIte, and_self, Bool.false_eq_true, s8, l8] <;> with_reducible rfl)))) | with_reducible apply cond_t | with_reducible apply cond_f))
          unfold SaidPost
          rw [hA, hT]
          exact ⟨w', _, rfl, ew.frame1 fr (fun b hb e0 => by have := f6 b (slBlk1_le hb); omega), Es.nil, kk, .inr (fun c hc => by have := f6 c hc; omega), fun c hc => by simp [slBlk] at hc⟩
        · have q3 : ((a.do_ : Int) == 3) = false := by rw [Bool.eq_false_iff]; simp; omega
          (repeat (first | (with_reducible apply bindP_intro; (focus (first | with_reducible rfl | (simp only [walkR, get0, getS, Nat.zero_add, Nat.add_zero, Bool.not_true, Bool.not_false, decide_true, decide_false, reduceIte, and_self, Bool.false_eq_true, ho, hH2, ho2, hH4, hH5, aload_one c3, encA0, q0, q1, q2, q3] <;> with_reducible rfl)))) | (with_reducible apply bind2_intro; (focus (first | with_reducible rfl | (simp only [walkR, get0, getS, Nat.zero_add, Nat.add_zero, Bool.not_true, Bool.not_false, decide_true, decide_false, reduceIte, and_self, Bool.false_eq_true, ho, hH2, ho2, hH4, hH5, aload_one c3, encA0, q0, q1, q2, q3] <;> with_reducible rfl)))) | with_reducible apply cond_t | with_reducible apply cond_f))
          simp only [hH5]
          exact nothing (by unfold toldP; rw [if_neg d0, if_neg d1, if_neg d2]) (by unfold actP; rw [if_neg d0, if_neg d1, if_neg d2, if_neg d3])

theorem neq_self (x : Nat) : ((x : Int) != (x : Int)) = false := by simp
theorem eq_self (x : Nat) : ((x : Int) == (x : Int)) = true := by simp

set_option maxHeartbeats 1000000 in
theorem stands32 {n lim : Nat} (h : LogAt H bL v L) (hg : Es H w L.es) (hf : L.Fits) (hb : L.idx + L.es.length < 9223372036854775000) (hs : L.es.length ≤ 70000) (hl : lim ≤ H.next) {i t : Nat} (hi : i < 18446744073709551616) :
    ∃ r H', Ahs.runT ap (n + 100000) lim (.fn 32) [ptr bL, ref L w, .int .u64 (i : Int), .int .u64 (t : Int)] H = some (r, H') ∧ r = .bool true ∧ Keeps2 H H' := by
  refine F32_run (n := n + 99999) a32 ?_
  unfold F32
  have hrm : room = 140737488355328 := rfl
  have ho := ref_ones hg
  generalize hH2 : H.push (.cells (refC L w)) = H2
  have k2 : Keeps2 H H2 := by rw [← hH2]; exact .push _ _
  have n2 : H2.next = H.next + 1 := by rw [← hH2, Heap.next_push]
  have c2 : H2.cells H.next = some (refC L w) := by rw [← hH2]; exact cells_push_new _ _
  have x25 : Ahs.runT ap (n + 99999) lim (.fn 25) [ptr bL] H2 = _ := log25 (n := n + 99997) (h.keep k2)
  obtain ⟨_, H3, x3, rfl, k3⟩ := log22 (n := n + 99996) (lim := lim) (h.keep k2) (by omega) (by omega)
  have n3 := k3.next
  have K3 := k2.trans k3
  obtain ⟨_, H4, x4, rfl, k4⟩ := ref65 (n := n + 99998) (lim := lim) (L := L) (hg.keep K3) (by omega)
  have n4 := k4.next
  have K4 := K3.trans k4
  obtain ⟨_, H5, x5, rfl, k5⟩ := log26 (n := n + 99995) (lim := lim) (h.keep K4) (by omega) (by omega) (by omega)
  have n5 := k5.next
  have K5 := K4.trans k5
  obtain ⟨_, H6, x6, rfl, k6⟩ := ref66 (n := n + 99998) (lim := lim) (L := L) (i := 18446744073709551615) (hg.keep K5) (by omega) (by omega) (by omega)
  have n6 := k6.next
  have K6 := K5.trans k6
  obtain ⟨s7, H7, x7, ⟨b7, o7⟩, k7, _⟩ := log19 (n := n + 99996) (lim := H6.next) (h.keep K6) (by omega) (by omega) (Nat.le_refl _) (i := 0) (most := 1099511627776) (by omega) (by omega)
  rw [fromP_all (by omega)] at o7
  have n7 := k7.next
  have K7 := K6.trans k7
  have x8 : Ahs.runT ap (n + 99999) lim (.fn 21) [s7, w] H7 = _ := same21 (n := n + 99998) (o7.sl : Es H7 s7 _) (hg.keep K7) (by omega) (by omega)
  have x9 : Ahs.runT ap (n + 99999) lim (.fn 18) [ptr bL, .int .u64 (i : Int)] H7 = _ := log18 (n := n + 99996) (h.keep K7) (by omega) hi
  obtain ⟨_, H8, x10, rfl, k8⟩ := ref67 (n := n + 99998) (lim := lim) (L := L) (i := i) (hg.keep K7) hf (by omega) (by omega)
  have n8 := k8.next
  have K8 := K7.trans k8
  obtain ⟨_, H9, x11, rfl, k9⟩ := ref66 (n := n + 99998) (lim := lim) (L := L) (i := i) (hg.keep K8) (by omega) (by omega) (by omega)
  have n9 := k9.next
  have K9 := K8.trans k9
  obtain ⟨_, H10, x12, rfl, k10⟩ := log27 (n := n + 99995) (lim := lim) (i := i) (h.keep K9) (by omega) (by omega) (by omega)
  have n10 := k10.next
  have K10 := K9.trans k10
  obtain ⟨_, H11, x13, rfl, k11⟩ := log34 (n := n + 99995) (lim := H10.next) (i := i) (t := t) (h.keep K10) (Nat.le_refl _) (by omega)
  have n11 := k11.next
  have K11 := K10.trans k11
  obtain ⟨_, H12, x14, rfl, k12⟩ := ref68 (n := n + 99997) (lim := lim) (L := L) (i := i) (t := t) (hg.keep K11) (by omega)
  have n12 := k12.next
  have K12 := K11.trans k12
  have hm : t % 9 < 9 := Nat.mod_lt _ (by omega)
  obtain ⟨s13, H13, x15, ⟨b13, o13⟩, k13, _⟩ := log19 (n := n + 99996) (lim := H12.next) (h.keep K12) (by omega) (by omega) (Nat.le_refl _) (i := i) (most := t % 9) hi (by omega)
  have n13 := k13.next
  have K13 := K12.trans k13
  obtain ⟨s14, H14, x16, ⟨b14, o14⟩, k14, _⟩ := ref69 (n := n + 99998) (lim := lim) (L := L) (hg.keep K13) hf (by omega) (by omega) (by omega) (i := i) (most := t % 9) hi (by omega)
  have K14 := K13.trans k14
  have e13 : Es H14 s13 (fromP L i (t % 9)) := o13.sl.keep k14
  have hfl := len_fromP L i (t % 9)
  have x17 : Ahs.runT ap (n + 99999) lim (.fn 21) [s13, s14] H14 = _ := same21 (n := n + 99998) e13 (o14.sl : Es H14 s14 _) (by omega) (by omega)
  have hrem := rem_nat .u64 t 9 (by omega)
  have hcv : IntKind.i64.wrap ((t % 9 : Nat) : Int) = ((t % 9 : Nat) : Int) := wrap_i64 (by omega) (by omega)
  have hrem' : abin .rem (.int .u64 (t : Int)) (.int .u64 9) = some (.int .u64 ((t % 9 : Nat) : Int)) := hrem
  have tt : ∀ xs : List Ent, decide (xs = xs) = true := fun xs => dT rfl
  have bb : ∀ b : Bool, eqvO false .bool (.bool b) (.bool b) = some (.bool true) := fun b => by cases b <;> rfl
  have y3 : Ahs.runT ap (n + 99999) lim (.fn 22) [ptr bL] H2 = _ := x3
  have y4 : Ahs.runT ap (n + 99999) lim (.fn 65) [ref L w] H3 = _ := x4
  have y5 : Ahs.runT ap (n + 99999) lim (.fn 26) [ptr bL] H4 = _ := x5
  have y6 : Ahs.runT ap (n + 99999) lim (.fn 66) [ref L w, .int .u64 18446744073709551615] H5 = _ := x6
  have y7 : Ahs.runT ap (n + 99999) H6.next (.fn 19) [ptr bL, .int .u64 0, .int .i64 1099511627776] H6 = _ := x7
  have y10 : Ahs.runT ap (n + 99999) lim (.fn 67) [ref L w, .int .u64 (i : Int)] H7 = _ := x10
  have y11 : Ahs.runT ap (n + 99999) lim (.fn 66) [ref L w, .int .u64 (i : Int)] H8 = _ := x11
  have y12 : Ahs.runT ap (n + 99999) lim (.fn 27) [ptr bL, .int .u64 (i : Int)] H9 = _ := x12
  have y13 : Ahs.runT ap (n + 99999) H10.next (.fn 34) [ptr bL, .int .u64 (i : Int), .int .u64 (t : Int)] H10 = _ := x13
  have y14 : Ahs.runT ap (n + 99999) lim (.fn 68) [ref L w, .int .u64 (i : Int), .int .u64 (t : Int)] H11 = _ := x14
  have y15 : Ahs.runT ap (n + 99999) H12.next (.fn 19) [ptr bL, .int .u64 (i : Int), .int .i64 ((t % 9 : Nat) : Int)] H12 = _ := x15
  have y16 : Ahs.runT ap (n + 99999) lim (.fn 69) [ref L w, .int .u64 (i : Int), .int .i64 ((t % 9 : Nat) : Int)] H13 = _ := x16
  have c3 := k3.cells c2
  have c4 := k4.cells c3
  have c5 := k5.cells c4
  have c6 := k6.cells c5
  have c7 := k7.cells c6
  have c8 := k8.cells c7
  have c9 := k9.cells c8
  have c10 := k10.cells c9
  have c11 := k11.cells c10
  have c12 := k12.cells c11
  have c13 := k13.cells c12
  (repeat (first | (with_reducible apply bindP_intro; (focus (first | with_reducible rfl | (simp only [walkR, get0, getS, Nat.zero_add, Nat.add_zero, Bool.not_true, Bool.not_false, decide_true, decide_false, reduceIte, and_self, Bool.false_eq_true, ho, hH2, x25, y3, ldC c3, y4, y5, ldC c5, y6, aload_one c6, neq_self, y7, aload_one c7, x8, tt] <;> with_reducible rfl)))) | (with_reducible apply bind2_intro; (focus (first | with_reducible rfl | (simp only [walkR, get0, getS, Nat.zero_add, Nat.add_zero, Bool.not_true, Bool.not_false, decide_true, decide_false, reduceIte, and_self, Bool.false_eq_true, ho, hH2, x25, y3, ldC c3, y4, y5, ldC c5, y6, aload_one c6, neq_self, y7, aload_one c7, x8, tt] <;> with_reducible rfl)))) | with_reducible apply cond_t | with_reducible apply cond_f))
  cases ht : termP L i with
  | none =>
    rw [ht] at x9 y10
    have z0 : ((0 : Int) == 0) = true := rfl
    (repeat (first | (with_reducible apply bindP_intro; (focus (first | with_reducible rfl | (simp only [walkR, get0, getS, Nat.zero_add, Nat.add_zero, Bool.not_true, Bool.not_false, decide_true, decide_false, reduceIte, and_self, Bool.false_eq_true, x9, optT, ldC c7, y10, ldC c8, y11, z0, bb, y12, eq_self, y13, ldC c11, y14, hrem', hcv, y15, ldC c13, y16, x17, tt] <;> with_reducible rfl)))) | (with_reducible apply bind2_intro; (focus (first | with_reducible rfl | (simp only [walkR, get0, getS, Nat.zero_add, Nat.add_zero, Bool.not_true, Bool.not_false, decide_true, decide_false, reduceIte, and_self, Bool.false_eq_true, x9, optT, ldC c7, y10, ldC c8, y11, z0, bb, y12, eq_self, y13, ldC c11, y14, hrem', hcv, y15, ldC c13, y16, x17, tt] <;> with_reducible rfl)))) | with_reducible apply cond_t | with_reducible apply cond_f))
    exact ⟨rfl, K14⟩
  | some tm =>
    rw [ht] at x9 y10
    (repeat (first | (with_reducible apply bindP_intro; (focus (first | with_reducible rfl | (simp only [walkR, get0, getS, Nat.zero_add, Nat.add_zero, Bool.not_true, Bool.not_false, decide_true, decide_false, reduceIte, and_self, Bool.false_eq_true, x9, optT, ldC c7, y10, ldC c8, y11, eq_self, bb, y12, y13, ldC c11, y14, hrem', hcv, y15, ldC c13, y16, x17, tt] <;> with_reducible rfl)))) | (with_reducible apply bind2_intro; (focus (first | with_reducible rfl | (simp only [walkR, get0, getS, Nat.zero_add, Nat.add_zero, Bool.not_true, Bool.not_false, decide_true, decide_false, reduceIte, and_self, Bool.false_eq_true, x9, optT, ldC c7, y10, ldC c8, y11, eq_self, bb, y12, y13, ldC c11, y14, hrem', hcv, y15, ldC c13, y16, x17, tt] <;> with_reducible rfl)))) | with_reducible apply cond_t | with_reducible apply cond_f))
    exact ⟨rfl, K14⟩

end
end Go.Proofs.Ytpefhojmfcenfaa.logs
