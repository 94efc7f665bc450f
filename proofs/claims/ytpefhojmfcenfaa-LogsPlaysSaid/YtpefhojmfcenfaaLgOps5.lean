/- Concat, New, grown, Same. -/
import Derived.Test.YtpefhojmfcenfaaLgOps4
set_option maxRecDepth 100000
set_option linter.unusedVariables false
set_option linter.unusedSimpArgs false
namespace Go.Proofs.Ytpefhojmfcenfaa.logs
open Go.Ahs

theorem lt00 : decide ((0 : Int) < 0) = false := rfl
theorem w00 : IntKind.i64.wrap ((0 : Int) - 0) = 0 := rfl
theorem acap_nil : acap (.sl none 0 (.ex 0)) = some (.int .i64 0) := rfl

section
variable {H : Heap}

theorem grow0 {n lim : Nat} : Ahs.runT ap (n + 1) lim (.fn 74) [.sl none 0 (.ex 0), .int .i64 0] H = some (.sl none 0 (.ex 0), H) := by
  refine run_eqn (F74_run a74 ?_)
  unfold F74 F74_j1 F74_j0
  (repeat (first | (with_reducible apply bindP_intro; (focus (first | with_reducible rfl | (simp only [walkR, get0, getS, Nat.zero_add, Nat.add_zero, Bool.not_true, Bool.not_false, decide_true, decide_false, reduceIte, and_self, Bool.false_eq_true, lt00, acap_nil, w00] <;> with_reducible rfl)))) | (with_reducible apply bind2_intro; (focus (first | with_reducible rfl | (simp only [walkR, get0, getS, Nat.zero_add, Nat.add_zero, Bool.not_true, Bool.not_false, decide_true, decide_false, reduceIte, and_self, Bool.false_eq_true, lt00, acap_nil, w00] <;> with_reducible rfl)))) | with_reducible apply cond_t | with_reducible apply cond_f))
  exact ⟨rfl, rfl⟩

theorem concat0 {n lim : Nat} : Ahs.runT ap (n + 2) lim (.fn 58) [.sl none 0 (.ex 0)] H = some (.sl none 0 (.ex 0), H) := by
  refine run_eqn (F58_run a58 ?_)
  unfold F58
  (repeat (first | (with_reducible apply bindP_intro; (focus (first | with_reducible rfl | (simp only [walkR, get0, getS, Nat.zero_add, Nat.add_zero, Bool.not_true, Bool.not_false, decide_true, decide_false, reduceIte, and_self, Bool.false_eq_true] <;> with_reducible rfl)))) | (with_reducible apply bind2_intro; (focus (first | with_reducible rfl | (simp only [walkR, get0, getS, Nat.zero_add, Nat.add_zero, Bool.not_true, Bool.not_false, decide_true, decide_false, reduceIte, and_self, Bool.false_eq_true] <;> with_reducible rfl)))) | with_reducible apply cond_t | with_reducible apply cond_f))
  show F58_s0 _ _ _ _ _ _ _ _ _ _ _
  unfold F58_s0
  (repeat (first | (with_reducible apply bindP_intro; (focus (first | with_reducible rfl | (simp only [walkR, get0, getS, Nat.zero_add, Nat.add_zero, Bool.not_true, Bool.not_false, decide_true, decide_false, reduceIte, and_self, Bool.false_eq_true, lt00] <;> with_reducible rfl)))) | (with_reducible apply bind2_intro; (focus (first | with_reducible rfl | (simp only [walkR, get0, getS, Nat.zero_add, Nat.add_zero, Bool.not_true, Bool.not_false, decide_true, decide_false, reduceIte, and_self, Bool.false_eq_true, lt00] <;> with_reducible rfl)))) | with_reducible apply cond_t | with_reducible apply cond_f))
  unfold F58_j1
  (repeat (first | (with_reducible apply bindP_intro; (focus (first | with_reducible rfl | (simp only [walkR, get0, getS, Nat.zero_add, Nat.add_zero, Bool.not_true, Bool.not_false, decide_true, decide_false, reduceIte, and_self, Bool.false_eq_true, grow0] <;> with_reducible rfl)))) | (with_reducible apply bind2_intro; (focus (first | with_reducible rfl | (simp only [walkR, get0, getS, Nat.zero_add, Nat.add_zero, Bool.not_true, Bool.not_false, decide_true, decide_false, reduceIte, and_self, Bool.false_eq_true, grow0] <;> with_reducible rfl)))) | with_reducible apply cond_t | with_reducible apply cond_f))
  show F58_s2 _ _ _ _ _ _ _ _ _ _
  unfold F58_s2 F58_j0
  (repeat (first | (with_reducible apply bindP_intro; (focus (first | with_reducible rfl | (simp only [walkR, get0, getS, Nat.zero_add, Nat.add_zero, Bool.not_true, Bool.not_false, decide_true, decide_false, reduceIte, and_self, Bool.false_eq_true, lt00] <;> with_reducible rfl)))) | (with_reducible apply bind2_intro; (focus (first | with_reducible rfl | (simp only [walkR, get0, getS, Nat.zero_add, Nat.add_zero, Bool.not_true, Bool.not_false, decide_true, decide_false, reduceIte, and_self, Bool.false_eq_true, lt00] <;> with_reducible rfl)))) | with_reducible apply cond_t | with_reducible apply cond_f))
  exact ⟨rfl, rfl⟩

theorem rep_len (m : Nat) (z : List AVal) : (rep m z).length = m * z.length := by
  unfold rep
  rw [flatten_len (sz := z.length) (fun x hx => by rw [(List.mem_replicate.1 hx).2])]
  simp

theorem append_zeros {lim m : Nat} (hm : 0 < m) (hs : m ≤ 100000) : aappend lim H z0 48 true (.sl none 0 (.ex 0)) (.int .i64 (m : Int)) = some (.sl (some (H.next, 0)) m (.op 13), H.push (.cells (rep m z0))) := by
  have hrm : room = 140737488355328 := rfl
  have hall : (rep m z0).all (·.one) = true := by
    unfold rep
    exact flatten_one fun x hx => by rw [(List.mem_replicate.1 hx).2]; rfl
  unfold aappend
  simp only [if_true]
  rw [if_pos ⟨by omega, by omega⟩]
  simp only [Option.bind_eq_bind, Option.bind_some, Int.toNat_natCast]
  rw [hall]
  have hz : z0.length = 13 := rfl
  rw [hz, if_neg (by simp), if_neg (by omega), if_neg (by omega)]

theorem append_room {lim b : Nat} {cs : List AVal} {x : AVal} {ys : List (List AVal)} (hc : H.cells b = some cs) (hl : lim ≤ b) (hsrc : source H 13 x = some (ys.length, ys.flatten)) (hy : ∀ y ∈ ys, y.length = 13 ∧ y.all (·.one) = true) (hne : ys ≠ [])
    (hcs : cs.length = ys.length * 13) (hs : ys.length ≤ 100000) : aappend lim H z0 48 false (.sl (some (b, 0)) 0 (.op 13)) x = some (.sl (some (b, 0)) ys.length (.op 13), H.set b (.cells ys.flatten)) := by
  have h0 : ¬ ys.length = 0 := fun e => hne (List.length_eq_zero_iff.1 e)
  have hrm : room = 140737488355328 := rfl
  have hyl := flatten_len (fun y hy' => (hy y hy').1)
  rw [aappend_eq (zero := z0) hsrc (flatten_one fun y hy' => (hy y hy').2) (by decide)]
  simp only [h0, if_false, Nat.zero_add, Nat.zero_mul]
  have hz : z0.length = 13 := rfl
  rw [if_neg (by omega), hc]
  simp only [Option.bind_eq_bind, Option.bind_some, hz]
  rw [if_pos ⟨hl, trivial⟩, if_pos (by omega), put_all (by omega)]

theorem grow1 {n lim m : Nat} (hm : 0 < m) (hs : m ≤ 100000) : Ahs.runT ap (n + 1) lim (.fn 74) [.sl none 0 (.ex 0), .int .i64 (m : Int)] H = some (.sl (some (H.next, 0)) 0 (.op 13), H.push (.cells (rep m z0))) := by
  refine run_eqn (F74_run a74 ?_)
  unfold F74 F74_j1 F74_j0
  have h1 : decide ((m : Int) < 0) = false := dF (by omega)
  have h2 : IntKind.i64.wrap ((m : Int) - 0) = (m : Int) := by rw [wrap_i64 (by omega) (by omega)]; omega
  have h3 : decide ((0 : Int) < (m : Int)) = true := dT (by omega)
  have h4 : aslice 13 (.sl none 0 (.ex 0)) none (some (.int .i64 0)) none = some (.sl none 0 (.ex 0)) := rfl
  have h5 : aslice 13 (.sl (some (H.next, 0)) m (.op 13)) none (some (.int .i64 0)) none = some (.sl (some (H.next, 0)) 0 (.op 13)) := by
    simp [aslice, natOr, natOf, shift]
  (repeat (first | (with_reducible apply bindP_intro; (focus (first | with_reducible rfl | (simp only [walkR, get0, getS, Nat.zero_add, Nat.add_zero, Bool.not_true, Bool.not_false, decide_true, decide_false, reduceIte, and_self, Bool.false_eq_true, h1, acap_nil, w00, h2, h3, h4, append_zeros hm hs, h5] <;> with_reducible rfl)))) | (with_reducible apply bind2_intro; (focus (first | with_reducible rfl | (simp only [walkR, get0, getS, Nat.zero_add, Nat.add_zero, Bool.not_true, Bool.not_false, decide_true, decide_false, reduceIte, and_self, Bool.false_eq_true, h1, acap_nil, w00, h2, h3, h4, append_zeros hm hs, h5] <;> with_reducible rfl)))) | with_reducible apply cond_t | with_reducible apply cond_f))
  exact ⟨rfl, rfl⟩

theorem concat1 {n lim : Nat} {s x : AVal} {es : List Ent} (hs : Sl H 1 s [[x]]) (hx : Es H x es) (hlen : es.length ≤ 100000) (hl : lim ≤ H.next) (hn : 3 ≤ n) :
    ∃ r H', Ahs.runT ap (n + 2) lim (.fn 58) [s] H = some (r, H') ∧ (∃ b, Own H' 13 r (es.map enc) b) ∧ Keeps2 H H' ∧ (∀ c, slBlk r = some c → H.next ≤ c) := by
  refine F58_run a58 ?_
  unfold F58
  obtain ⟨n, rfl⟩ : ∃ k, n = k + 3 := ⟨n - 3, by omega⟩
  have hsl : alen false s = some (.int .i64 1) := hs.len
  have d01 : decide ((0 : Int) < 1) = true := rfl
  have d11 : decide ((1 : Int) < 1) = false := rfl
  have w01 : IntKind.i64.wrap ((0 : Int) + 1) = 1 := rfl
  have ha : aindexAddr none 1 s (.int .i64 0) = some (slot s (0 * 1)) := hs.addr (i := 0) (by simp)
  have hld : aload H none (slot s (0 * 1)) = some x := hs.load1 (i := 0) rfl
  have hwl : IntKind.i64.wrap (0 + (es.length : Int)) = (es.length : Int) := by rw [wrap_i64 (by omega) (by omega)]; omega
  have hlt : decide ((es.length : Int) < 0) = false := dF (by omega)
  (repeat (first | (with_reducible apply bindP_intro; (focus (first | with_reducible rfl | (simp only [walkR, get0, getS, Nat.zero_add, Nat.add_zero, Bool.not_true, Bool.not_false, decide_true, decide_false, reduceIte, and_self, Bool.false_eq_true, hsl] <;> with_reducible rfl)))) | (with_reducible apply bind2_intro; (focus (first | with_reducible rfl | (simp only [walkR, get0, getS, Nat.zero_add, Nat.add_zero, Bool.not_true, Bool.not_false, decide_true, decide_false, reduceIte, and_self, Bool.false_eq_true, hsl] <;> with_reducible rfl)))) | with_reducible apply cond_t | with_reducible apply cond_f))
  show F58_s0 _ _ _ _ (F58_l0 _ _ _ _ (n + 3)) _ _ _ _ _ _
  unfold F58_s0 F58_j2
  (repeat (first | (with_reducible apply bindP_intro; (focus (first | with_reducible rfl | (simp only [walkR, get0, getS, Nat.zero_add, Nat.add_zero, Bool.not_true, Bool.not_false, decide_true, decide_false, reduceIte, and_self, Bool.false_eq_true, d01, ha, hld, hx.len, hwl, hlt, w01] <;> with_reducible rfl)))) | (with_reducible apply bind2_intro; (focus (first | with_reducible rfl | (simp only [walkR, get0, getS, Nat.zero_add, Nat.add_zero, Bool.not_true, Bool.not_false, decide_true, decide_false, reduceIte, and_self, Bool.false_eq_true, d01, ha, hld, hx.len, hwl, hlt, w01] <;> with_reducible rfl)))) | with_reducible apply cond_t | with_reducible apply cond_f))
  show F58_s0 _ _ _ _ (F58_l0 _ _ _ _ (n + 2)) _ _ _ _ _ _
  unfold F58_s0 F58_j1
  (repeat (first | (with_reducible apply bindP_intro; (focus (first | with_reducible rfl | (simp only [walkR, get0, getS, Nat.zero_add, Nat.add_zero, Bool.not_true, Bool.not_false, decide_true, decide_false, reduceIte, and_self, Bool.false_eq_true, d11] <;> with_reducible rfl)))) | (with_reducible apply bind2_intro; (focus (first | with_reducible rfl | (simp only [walkR, get0, getS, Nat.zero_add, Nat.add_zero, Bool.not_true, Bool.not_false, decide_true, decide_false, reduceIte, and_self, Bool.false_eq_true, d11] <;> with_reducible rfl)))) | with_reducible apply cond_t | with_reducible apply cond_f))
  by_cases h0 : es.length = 0
  · have hnil : es = [] := List.length_eq_zero_iff.1 h0
    subst hnil
    have hap : aappend lim H z0 48 false (.sl none 0 (.ex 0)) x = some (.sl none 0 (.ex 0), H) := by
      rw [aappend_eq (zero := z0) (m := 0) (new := []) hx.source rfl (by decide)]
      simp
    (repeat (first | (with_reducible apply bindP_intro; (focus (first | with_reducible rfl | (simp only [walkR, get0, getS, Nat.zero_add, Nat.add_zero, Bool.not_true, Bool.not_false, decide_true, decide_false, reduceIte, and_self, Bool.false_eq_true, show ((([] : List Ent).length : Nat) : Int) = 0 from rfl, grow0, hsl] <;> with_reducible rfl)))) | (with_reducible apply bind2_intro; (focus (first | with_reducible rfl | (simp only [walkR, get0, getS, Nat.zero_add, Nat.add_zero, Bool.not_true, Bool.not_false, decide_true, decide_false, reduceIte, and_self, Bool.false_eq_true, show ((([] : List Ent).length : Nat) : Int) = 0 from rfl, grow0, hsl] <;> with_reducible rfl)))) | with_reducible apply cond_t | with_reducible apply cond_f))
    show F58_s2 _ _ _ _ (F58_l2 _ _ _ _ (n + 3)) _ _ _ _ _
    unfold F58_s2
    (repeat (first | (with_reducible apply bindP_intro; (focus (first | with_reducible rfl | (simp only [walkR, get0, getS, Nat.zero_add, Nat.add_zero, Bool.not_true, Bool.not_false, decide_true, decide_false, reduceIte, and_self, Bool.false_eq_true, d01, ha, hld, hap, w01] <;> with_reducible rfl)))) | (with_reducible apply bind2_intro; (focus (first | with_reducible rfl | (simp only [walkR, get0, getS, Nat.zero_add, Nat.add_zero, Bool.not_true, Bool.not_false, decide_true, decide_false, reduceIte, and_self, Bool.false_eq_true, d01, ha, hld, hap, w01] <;> with_reducible rfl)))) | with_reducible apply cond_t | with_reducible apply cond_f))
    show F58_s2 _ _ _ _ (F58_l2 _ _ _ _ (n + 2)) _ _ _ _ _
    unfold F58_s2 F58_j0
    (repeat (first | (with_reducible apply bindP_intro; (focus (first | with_reducible rfl | (simp only [walkR, get0, getS, Nat.zero_add, Nat.add_zero, Bool.not_true, Bool.not_false, decide_true, decide_false, reduceIte, and_self, Bool.false_eq_true, d11] <;> with_reducible rfl)))) | (with_reducible apply bind2_intro; (focus (first | with_reducible rfl | (simp only [walkR, get0, getS, Nat.zero_add, Nat.add_zero, Bool.not_true, Bool.not_false, decide_true, decide_false, reduceIte, and_self, Bool.false_eq_true, d11] <;> with_reducible rfl)))) | with_reducible apply cond_t | with_reducible apply cond_f))
    exact ⟨⟨0, fun _ h => by simp at h, .inl ⟨rfl, rfl⟩⟩, .refl _, fun c hc => by simp [slBlk] at hc⟩
  · have hk : Keeps2 H (H.push (.cells (rep es.length z0))) := .push _ _
    have hap := append_room (lim := lim) (cells_push_new H (rep es.length z0)) hl (Sl.source (hx.keep hk)) (enc_each es) (fun e => h0 (by have := congrArg List.length e; simpa using this))
      (by rw [rep_len]; simp; rfl) (by simpa using hlen)
    have hld2 : aload (H.push (.cells (rep es.length z0))) none (slot s (0 * 1)) = some x := (hs.keep hk).load1 (i := 0) rfl
    (repeat (first | (with_reducible apply bindP_intro; (focus (first | with_reducible rfl | (simp only [walkR, get0, getS, Nat.zero_add, Nat.add_zero, Bool.not_true, Bool.not_false, decide_true, decide_false, reduceIte, and_self, Bool.false_eq_true, grow1 (by omega) hlen, hsl] <;> with_reducible rfl)))) | (with_reducible apply bind2_intro; (focus (first | with_reducible rfl | (simp only [walkR, get0, getS, Nat.zero_add, Nat.add_zero, Bool.not_true, Bool.not_false, decide_true, decide_false, reduceIte, and_self, Bool.false_eq_true, grow1 (by omega) hlen, hsl] <;> with_reducible rfl)))) | with_reducible apply cond_t | with_reducible apply cond_f))
    show F58_s2 _ _ _ _ (F58_l2 _ _ _ _ (n + 3)) _ _ _ _ _
    unfold F58_s2
    (repeat (first | (with_reducible apply bindP_intro; (focus (first | with_reducible rfl | (simp only [walkR, get0, getS, Nat.zero_add, Nat.add_zero, Bool.not_true, Bool.not_false, decide_true, decide_false, reduceIte, and_self, Bool.false_eq_true, d01, ha, hld2, hap, w01] <;> with_reducible rfl)))) | (with_reducible apply bind2_intro; (focus (first | with_reducible rfl | (simp only [walkR, get0, getS, Nat.zero_add, Nat.add_zero, Bool.not_true, Bool.not_false, decide_true, decide_false, reduceIte, and_self, Bool.false_eq_true, d01, ha, hld2, hap, w01] <;> with_reducible rfl)))) | with_reducible apply cond_t | with_reducible apply cond_f))
    show F58_s2 _ _ _ _ (F58_l2 _ _ _ _ (n + 2)) _ _ _ _ _
    unfold F58_s2 F58_j0
    (repeat (first | (with_reducible apply bindP_intro; (focus (first | with_reducible rfl | (simp only [walkR, get0, getS, Nat.zero_add, Nat.add_zero, Bool.not_true, Bool.not_false, decide_true, decide_false, reduceIte, and_self, Bool.false_eq_true, d11] <;> with_reducible rfl)))) | (with_reducible apply bind2_intro; (focus (first | with_reducible rfl | (simp only [walkR, get0, getS, Nat.zero_add, Nat.add_zero, Bool.not_true, Bool.not_false, decide_true, decide_false, reduceIte, and_self, Bool.false_eq_true, d11] <;> with_reducible rfl)))) | with_reducible apply cond_t | with_reducible apply cond_f))
    refine ⟨⟨H.next, enc_each es, .inr (.inr ⟨rfl, ?_⟩)⟩, Keeps2.setNew hk (Nat.le_refl _) _, fun c hc => by simp [slBlk] at hc; omega⟩
    exact cells_set_same (by rw [Heap.next_push]; omega)

theorem build_log (i t m : Int) (v : AVal) (ho : v.one = true) (hc : v.cells = [v]) : buildO z2 [(0, 1, (.bool true)), (1, 1, .int .u64 i), (2, 1, .int .u64 t), (3, 1, .int .u8 m), (4, 1, v)] = some (.agg [.bool true, .int .u64 i, .int .u64 t, .int .u8 m, v]) := by
  simp only [buildO, fillV, hc]
  rfl

theorem new0 {n lim : Nat} (hl : lim ≤ H.next) {i t m : Nat} (hi : i < 18446744073709551616) :
    ∃ r H', Ahs.runT ap (n + 4) lim (.fn 23) [.int .u64 (i : Int), .int .u64 (t : Int), .int .u8 (m : Int), .sl none 0 (.ex 0)] H = some (r, H') ∧ (∃ b, r = .tup [ptr b, .int .i64 0] ∧ LogAt H' b (.sl none 0 (.ex 0)) ⟨i, t, m, []⟩ ∧ H.next ≤ b) ∧ Keeps2 H H' := by
  refine F23_run a23 ?_
  unfold F23
  (repeat (first | (with_reducible apply bindP_intro; (focus (first | with_reducible rfl | (simp only [walkR, get0, getS, Nat.zero_add, Nat.add_zero, Bool.not_true, Bool.not_false, decide_true, decide_false, reduceIte, and_self, Bool.false_eq_true, concat0 (n := n + 1)] <;> with_reducible rfl)))) | (with_reducible apply bind2_intro; (focus (first | with_reducible rfl | (simp only [walkR, get0, getS, Nat.zero_add, Nat.add_zero, Bool.not_true, Bool.not_false, decide_true, decide_false, reduceIte, and_self, Bool.false_eq_true, concat0 (n := n + 1)] <;> with_reducible rfl)))) | with_reducible apply cond_t | with_reducible apply cond_f))
  refine bind2_of (log59 (n := n + 2) (t := t) (Es.nil : Es H _ []) (fun _ h => by simp at h) hl (by simp) (by simp) hi) ?_
  rintro _ H1 ⟨rfl, k1⟩
  have hb := build_log i t m (.sl none 0 (.ex 0)) rfl rfl
  have hf : fitP i t [] = true := rfl
  have hone : ([.bool true, .int .u64 (i : Int), .int .u64 (t : Int), .int .u8 (m : Int), .sl none 0 (.ex 0)] : List AVal).all (fun x => x.one) = true := rfl
  (repeat (first | (with_reducible apply bindP_intro; (focus (first | with_reducible rfl | (simp only [walkR, get0, getS, Nat.zero_add, Nat.add_zero, Bool.not_true, Bool.not_false, decide_true, decide_false, reduceIte, and_self, Bool.false_eq_true, hf, hb, hone] <;> with_reducible rfl)))) | (with_reducible apply bind2_intro; (focus (first | with_reducible rfl | (simp only [walkR, get0, getS, Nat.zero_add, Nat.add_zero, Bool.not_true, Bool.not_false, decide_true, decide_false, reduceIte, and_self, Bool.false_eq_true, hf, hb, hone] <;> with_reducible rfl)))) | with_reducible apply cond_t | with_reducible apply cond_f))
  exact ⟨⟨H1.next, rfl, ⟨cells_push_new _ _, 0, ⟨fun _ h => by simp at h, .inl ⟨rfl, rfl⟩⟩, fun e => by simp [slBlk] at e⟩, k1.next⟩, k1.trans (.push _ _)⟩

theorem own_lt {sz : Nat} {v : AVal} {xs : List (List AVal)} {bv : Nat} (h : Own H sz v xs bv) : ∀ c, slBlk v = some c → c < H.next := by
  intro c hc
  have := h.blk c hc
  subst this
  rcases h.2 with ⟨rfl, _⟩ | ⟨o, cs, rfl, _, h3, _⟩ | ⟨h3, h4⟩
  · simp [slBlk] at hc
  · exact Heap.cells_lt h3
  · exact Heap.cells_lt h4

theorem new1 {n lim : Nat} (hl : lim ≤ H.next) {s x : AVal} {es : List Ent} (hs : Sl H 1 s [[x]]) (hx : Es H x es) (hok : ∀ e ∈ es, e.ok) (hlen : es.length ≤ 100000) (hn : es.length < n) {i t m : Nat} (hi : i < 18446744073709551616) :
    ∃ r H', Ahs.runT ap (n + 7) lim (.fn 23) [.int .u64 (i : Int), .int .u64 (t : Int), .int .u8 (m : Int), s] H = some (r, H') ∧
      (if fitP i t es = true then ∃ b v, r = .tup [ptr b, .int .i64 0] ∧ LogAt H' b v ⟨i, t, m, es⟩ ∧ H.next ≤ b ∧ (∀ c, slBlk v = some c → H.next ≤ c) else r = .tup [.ptr none, .int .i64 1]) ∧ Keeps2 H H' := by
  refine F23_run a23 ?_
  unfold F23
  refine bind2_of (concat1 (n := n + 4) (lim := lim) hs hx hlen hl (by omega)) ?_
  rintro w H1 ⟨⟨bw, o1⟩, k1, hfresh⟩
  refine bind2_of (log59 (n := n + 5) (t := t) (o1.sl : Es H1 w es) hok (by have := k1.next; omega) (by omega) (by omega) hi) ?_
  rintro _ H2 ⟨rfl, k2⟩
  have hb := build_log i t m w o1.one.1 o1.one.2
  have hone : ([.bool true, .int .u64 (i : Int), .int .u64 (t : Int), .int .u8 (m : Int), w] : List AVal).all (fun x => x.one) = true := by
    simp only [List.all_cons, o1.one.1]; rfl
  cases hf : fitP i t es with
  | false =>
    (repeat (first | (with_reducible apply bindP_intro; (focus (first | with_reducible rfl | (simp only [walkR, get0, getS, Nat.zero_add, Nat.add_zero, Bool.not_true, Bool.not_false, decide_true, decide_false, reduceIte, and_self, Bool.false_eq_true] <;> with_reducible rfl)))) | (with_reducible apply bind2_intro; (focus (first | with_reducible rfl | (simp only [walkR, get0, getS, Nat.zero_add, Nat.add_zero, Bool.not_true, Bool.not_false, decide_true, decide_false, reduceIte, and_self, Bool.false_eq_true] <;> with_reducible rfl)))) | with_reducible apply cond_t | with_reducible apply cond_f))
    simp only [Bool.false_eq_true, if_false, true_and]
    exact k1.trans k2
  | true =>
    (repeat (first | (with_reducible apply bindP_intro; (focus (first | with_reducible rfl | (simp only [walkR, get0, getS, Nat.zero_add, Nat.add_zero, Bool.not_true, Bool.not_false, decide_true, decide_false, reduceIte, and_self, Bool.false_eq_true, hb, hone] <;> with_reducible rfl)))) | (with_reducible apply bind2_intro; (focus (first | with_reducible rfl | (simp only [walkR, get0, getS, Nat.zero_add, Nat.add_zero, Bool.not_true, Bool.not_false, decide_true, decide_false, reduceIte, and_self, Bool.false_eq_true, hb, hone] <;> with_reducible rfl)))) | with_reducible apply cond_t | with_reducible apply cond_f))
    simp only [if_true]
    have k3 : Keeps2 H2 (H2.push (.cells [.bool true, .int .u64 (i : Int), .int .u64 (t : Int), .int .u8 (m : Int), w])) := .push _ _
    have hlt := own_lt o1
    refine ⟨⟨H2.next, w, rfl, ⟨cells_push_new _ _, bw, ?_, fun e => ?_⟩, by have := k1.next; have := k2.next; omega, hfresh⟩, (k1.trans k2).trans k3⟩
    · rcases o1.2 with ⟨rfl, h2⟩ | ⟨o, cs, rfl, h3⟩ | ⟨h3, h4⟩
      · exact ⟨o1.1, .inl ⟨rfl, h2⟩⟩
      · exact (o1.frame (Fram.of (S := fun _ => False) (k2.trans k3)) (fun h => h))
      · exact (o1.frame (Fram.of (S := fun _ => False) (k2.trans k3)) (fun h => h))
    · have := hlt _ e
      have := k2.next
      omega

/-- The same entries? -/
theorem same_loop {R : Caller} {lim n : Nat} {v w : AVal} {xs ys : List Ent} {K : AVal → Heap → Prop} (hv : Es H v xs) (hw : Es H w ys) (he : xs.length = ys.length) (hlen : xs.length < 9223372036854775807) :
    ∀ (m k : Nat), xs.length < m + k → k ≤ xs.length → K (.bool (decide (xs.drop k = ys.drop k))) H → F21_l0 R lim n K m v w (.int .i64 (k : Int)) H
  | 0, k, hm, hk, _ => by exfalso; omega
  | m + 1, k, hm, hk, hK => by
    show F21_s0 R lim n K (F21_l0 R lim n K m) _ _ _ H
    unfold F21_s0 F21_j0
    by_cases h1 : k < xs.length
    · have h2 : k < ys.length := by omega
      have hd : decide ((k : Int) < (xs.length : Int)) = true := dT (by omega)
      have hwr : IntKind.i64.wrap ((k : Int) + 1) = ((k + 1 : Nat) : Int) := i64_succ (by omega)
      rw [List.drop_eq_getElem_cons h1, List.drop_eq_getElem_cons h2] at hK
      by_cases h3 : xs[k] = ys[k]
      · have hq : (xs[k] == ys[k]) = true := by rw [h3]; simp
        (repeat (first | (with_reducible apply bindP_intro; (focus (first | with_reducible rfl | (simp only [walkR, get0, getS, Nat.zero_add, Nat.add_zero, Bool.not_true, Bool.not_false, decide_true, decide_false, reduceIte, and_self, Bool.false_eq_true, hv.len, hd, hv.addr h1, hv.load h1, hw.addr h2, hw.load h2, eqEnt, hq, hwr] <;> with_reducible rfl)))) | (with_reducible apply bind2_intro; (focus (first | with_reducible rfl | (simp only [walkR, get0, getS, Nat.zero_add, Nat.add_zero, Bool.not_true, Bool.not_false, decide_true, decide_false, reduceIte, and_self, Bool.false_eq_true, hv.len, hd, hv.addr h1, hv.load h1, hw.addr h2, hw.load h2, eqEnt, hq, hwr] <;> with_reducible rfl)))) | with_reducible apply cond_t | with_reducible apply cond_f))
        refine same_loop hv hw he hlen m (k + 1) (by omega) (by omega) ?_
        simp only [List.cons.injEq, h3, true_and] at hK
        exact hK
      · have hq : (xs[k] == ys[k]) = false := by rw [Bool.eq_false_iff]; simpa using h3
        (repeat (first | (with_reducible apply bindP_intro; (focus (first | with_reducible rfl | (simp only [walkR, get0, getS, Nat.zero_add, Nat.add_zero, Bool.not_true, Bool.not_false, decide_true, decide_false, reduceIte, and_self, Bool.false_eq_true, hv.len, hd, hv.addr h1, hv.load h1, hw.addr h2, hw.load h2, eqEnt, hq] <;> with_reducible rfl)))) | (with_reducible apply bind2_intro; (focus (first | with_reducible rfl | (simp only [walkR, get0, getS, Nat.zero_add, Nat.add_zero, Bool.not_true, Bool.not_false, decide_true, decide_false, reduceIte, and_self, Bool.false_eq_true, hv.len, hd, hv.addr h1, hv.load h1, hw.addr h2, hw.load h2, eqEnt, hq] <;> with_reducible rfl)))) | with_reducible apply cond_t | with_reducible apply cond_f))
        have : decide (xs[k] :: xs.drop (k + 1) = ys[k] :: ys.drop (k + 1)) = false := dF (by simp only [List.cons.injEq]; exact fun h => h3 h.1)
        rw [this] at hK
        exact hK
    · have hd : decide ((k : Int) < (xs.length : Int)) = false := dF (by omega)
      (repeat (first | (with_reducible apply bindP_intro; (focus (first | with_reducible rfl | (simp only [walkR, get0, getS, Nat.zero_add, Nat.add_zero, Bool.not_true, Bool.not_false, decide_true, decide_false, reduceIte, and_self, Bool.false_eq_true, hv.len, hd] <;> with_reducible rfl)))) | (with_reducible apply bind2_intro; (focus (first | with_reducible rfl | (simp only [walkR, get0, getS, Nat.zero_add, Nat.add_zero, Bool.not_true, Bool.not_false, decide_true, decide_false, reduceIte, and_self, Bool.false_eq_true, hv.len, hd] <;> with_reducible rfl)))) | with_reducible apply cond_t | with_reducible apply cond_f))
      rw [List.drop_eq_nil_of_le (by omega), List.drop_eq_nil_of_le (by omega)] at hK
      exact hK

theorem same21 {n lim : Nat} {v w : AVal} {xs ys : List Ent} (hv : Es H v xs) (hw : Es H w ys) (hlen : xs.length < 9223372036854775807) (hn : xs.length < n) : Ahs.runT ap (n + 1) lim (.fn 21) [v, w] H = some (.bool (decide (xs = ys)), H) := by
  refine run_eqn (F21_run a21 ?_)
  unfold F21
  by_cases he : xs.length = ys.length
  · have hq : (((xs.length : Nat) : Int) != ((ys.length : Nat) : Int)) = false := by rw [he]; simp
    (repeat (first | (with_reducible apply bindP_intro; (focus (first | with_reducible rfl | (simp only [walkR, get0, getS, Nat.zero_add, Nat.add_zero, Bool.not_true, Bool.not_false, decide_true, decide_false, reduceIte, and_self, Bool.false_eq_true, hv.len, hw.len, hq] <;> with_reducible rfl)))) | (with_reducible apply bind2_intro; (focus (first | with_reducible rfl | (simp only [walkR, get0, getS, Nat.zero_add, Nat.add_zero, Bool.not_true, Bool.not_false, decide_true, decide_false, reduceIte, and_self, Bool.false_eq_true, hv.len, hw.len, hq] <;> with_reducible rfl)))) | with_reducible apply cond_t | with_reducible apply cond_f))
    exact same_loop hv hw he hlen n 0 (by omega) (by omega) ⟨by simp, rfl⟩
  · have hq : (((xs.length : Nat) : Int) != ((ys.length : Nat) : Int)) = true := by simp; omega
    (repeat (first | (with_reducible apply bindP_intro; (focus (first | with_reducible rfl | (simp only [walkR, get0, getS, Nat.zero_add, Nat.add_zero, Bool.not_true, Bool.not_false, decide_true, decide_false, reduceIte, and_self, Bool.false_eq_true, hv.len, hw.len, hq] <;> with_reducible rfl)))) | (with_reducible apply bind2_intro; (focus (first | with_reducible rfl | (simp only [walkR, get0, getS, Nat.zero_add, Nat.add_zero, Bool.not_true, Bool.not_false, decide_true, decide_false, reduceIte, and_self, Bool.false_eq_true, hv.len, hw.len, hq] <;> with_reducible rfl)))) | with_reducible apply cond_t | with_reducible apply cond_f))
    exact ⟨by rw [dF (fun e => he (by rw [e]))], rfl⟩

end
end Go.Proofs.Ytpefhojmfcenfaa.logs
