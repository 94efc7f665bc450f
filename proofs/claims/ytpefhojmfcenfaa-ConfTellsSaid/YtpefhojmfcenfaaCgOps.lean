/- What the functions of conf come to. -/
import Derived.Test.YtpefhojmfcenfaaCgW1
import Derived.Test.YtpefhojmfcenfaaCgPr
import Derived.Test.YtpefhojmfcenfaaBhsW3
import Derived.Test.YtpefhojmfcenfaaBhsA23
import Derived.KernelRfl
set_option maxRecDepth 100000
set_option linter.unusedVariables false
set_option linter.unusedSimpArgs false
namespace Go.Proofs.Ytpefhojmfcenfaa.conf
open Go.Ahs

def bitN (x : Nat) : Nat := if 1 ≤ x ∧ x ≤ 5 then 2 ^ (x - 1) else 0
def popN (x : Nat) : Nat := x % 2 + x / 2 % 2 + x / 4 % 2 + x / 8 % 2 + x / 16 % 2 + x / 32 % 2 + x / 64 % 2 + x / 128 % 2
def hasN (m n : Nat) : Bool := !((m &&& bitN n) == 0)
def wonN (m v : Nat) : Bool := decide (popN (m &&& 31) < 2 * popN ((m &&& 31) &&& v))
def nearN (a b : Nat) : Bool := decide (popN ((a ^^^ b) &&& 31) ≤ 1)

theorem bitN_lt (x : Nat) : bitN x < 256 := by
  unfold bitN
  split
  · rename_i h
    have : x - 1 ≤ 4 := by omega
    exact Nat.lt_of_le_of_lt (Nat.pow_le_pow_right (by omega) this) (by decide)
  · decide
theorem popN_le (x : Nat) : popN x ≤ 8 := by unfold popN; omega
theorem dT {p : Prop} [Decidable p] (h : p) : decide p = true := decide_eq_true h
theorem dF {p : Prop} [Decidable p] (h : ¬ p) : decide p = false := decide_eq_false h
theorem wrap_u8 {n : Int} (h0 : 0 ≤ n) (h1 : n ≤ 255) : IntKind.u8.wrap n = n := wrap_id h0 h1
theorem wrap_i64 {n : Int} (h0 : -9223372036854775808 ≤ n) (h1 : n ≤ 9223372036854775807) : IntKind.i64.wrap n = n := wrap_id h0 h1
theorem i64_succ {i : Nat} (h : i < 9223372036854775807) : IntKind.i64.wrap ((i : Int) + 1) = ((i + 1 : Nat) : Int) := wrap_i64 (by omega) (by omega)
theorem cast_ne0 (k : Nat) : ((k : Int) != 0) = !(k == 0) := by
  cases k with
  | zero => rfl
  | succ k => simp [bne]; omega

section
variable {H : Heap} {n lim : Nat}

theorem bit71 {x : Nat} (hx : x < 256) : Ahs.runT ap (n + 1) lim (.fn 71) [.int .u8 (x : Int)] H = some (.int .u8 (bitN x : Nat), H) := by
  refine run_eqn (F71_run (n := n) a71 ?_)
  unfold F71
  by_cases h1 : x < 1
  · have d1 : decide ((x : Int) < 1) = true := dT (by omega)
    (repeat (first | (with_reducible apply bindP_intro; (focus (first | with_reducible rfl | (simp only [walkR, get0, getS, Nat.zero_add, Nat.add_zero, Bool.not_true, Bool.not_false, decide_true, decide_false, reduceIte, and_self, Bool.false_eq_true, d1] <;> with_reducible rfl)))) | (with_reducible apply bind2_intro; (focus (first | with_reducible rfl | (simp only [walkR, get0, getS, Nat.zero_add, Nat.add_zero, Bool.not_true, Bool.not_false, decide_true, decide_false, reduceIte, and_self, Bool.false_eq_true, d1] <;> with_reducible rfl)))) | with_reducible apply cond_t | with_reducible apply cond_f))
    exact ⟨by unfold bitN; rw [if_neg (by omega)]; rfl, rfl⟩
  · have d1 : decide ((x : Int) < 1) = false := dF (by omega)
    by_cases h2 : 5 < x
    · have d2 : decide ((5 : Int) < (x : Int)) = true := dT (by omega)
      (repeat (first | (with_reducible apply bindP_intro; (focus (first | with_reducible rfl | (simp only [walkR, get0, getS, Nat.zero_add, Nat.add_zero, Bool.not_true, Bool.not_false, decide_true, decide_false, reduceIte, and_self, Bool.false_eq_true, d1, d2] <;> with_reducible rfl)))) | (with_reducible apply bind2_intro; (focus (first | with_reducible rfl | (simp only [walkR, get0, getS, Nat.zero_add, Nat.add_zero, Bool.not_true, Bool.not_false, decide_true, decide_false, reduceIte, and_self, Bool.false_eq_true, d1, d2] <;> with_reducible rfl)))) | with_reducible apply cond_t | with_reducible apply cond_f))
      exact ⟨by unfold bitN; rw [if_neg (by omega)]; rfl, rfl⟩
    · have d2 : decide ((5 : Int) < (x : Int)) = false := dF (by omega)
      have hw : IntKind.u8.wrap ((x : Int) - 1) = ((x - 1 : Nat) : Int) := by rw [wrap_u8 (by omega) (by omega)]; omega
      have hs : abin .shl (.int .u8 1) (.int .u8 ((x - 1 : Nat) : Int)) = some (.int .u8 (bitN x : Nat)) := by
        have : x = 1 ∨ x = 2 ∨ x = 3 ∨ x = 4 ∨ x = 5 := by omega
        rcases this with rfl | rfl | rfl | rfl | rfl <;> rfl
      (repeat (first | (with_reducible apply bindP_intro; (focus (first | with_reducible rfl | (simp only [walkR, get0, getS, Nat.zero_add, Nat.add_zero, Bool.not_true, Bool.not_false, decide_true, decide_false, reduceIte, and_self, Bool.false_eq_true, d1, d2, hw, hs] <;> with_reducible rfl)))) | (with_reducible apply bind2_intro; (focus (first | with_reducible rfl | (simp only [walkR, get0, getS, Nat.zero_add, Nat.add_zero, Bool.not_true, Bool.not_false, decide_true, decide_false, reduceIte, and_self, Bool.false_eq_true, d1, d2, hw, hs] <;> with_reducible rfl)))) | with_reducible apply cond_t | with_reducible apply cond_f))
      exact ⟨rfl, rfl⟩

theorem tblOK {s : List UInt8} (h : allBelow (fun x => (s[x]?).map (·.toNat) == some (popN x)) 256 = true) {x : Nat} (hx : x < 256) : aindexStr (.str s) (.int .u8 (x : Int)) = some (.int .u8 (popN x : Nat)) := by
  have := allBelow_get h x hx
  simp only [beq_iff_eq] at this
  cases hs : s[x]? with
  | none => rw [hs] at this; simp at this
  | some c =>
    rw [hs] at this
    simp at this
    simp only [aindexStr, natOf_nat, hs, Option.map_some, this]

theorem pop72 {x : Nat} (hx : x < 256) : Ahs.runT ap (n + 1) lim (.fn 72) [.int .u8 (x : Int)] H = some (.int .i64 (popN x : Nat), H) := by
  refine run_eqn (F72_run (n := n) a72 ?_)
  unfold F72
  refine bindP_intro (tblOK (by kernel_rfl) hx) ?_
  have := popN_le x
  have hw : IntKind.i64.wrap (popN x : Int) = (popN x : Int) := wrap_i64 (by omega) (by omega)
  (repeat (first | (with_reducible apply bindP_intro; (focus (first | with_reducible rfl | (simp only [walkR, get0, getS, Nat.zero_add, Nat.add_zero, Bool.not_true, Bool.not_false, decide_true, decide_false, reduceIte, and_self, Bool.false_eq_true, hw] <;> with_reducible rfl)))) | (with_reducible apply bind2_intro; (focus (first | with_reducible rfl | (simp only [walkR, get0, getS, Nat.zero_add, Nat.add_zero, Bool.not_true, Bool.not_false, decide_true, decide_false, reduceIte, and_self, Bool.false_eq_true, hw] <;> with_reducible rfl)))) | with_reducible apply cond_t | with_reducible apply cond_f))
  exact ⟨rfl, rfl⟩

theorem has43 {m x : Nat} (hm : m < 256) (hx : x < 256) : Ahs.runT ap (n + 2) lim (.fn 43) [.int .u8 (m : Int), .int .u8 (x : Int)] H = some (.bool (hasN m x), H) := by
  refine run_eqn (F43_run (n := n + 1) a43 ?_)
  unfold F43
  (repeat (first | (with_reducible apply bindP_intro; (focus (first | with_reducible rfl | (simp only [walkR, get0, getS, Nat.zero_add, Nat.add_zero, Bool.not_true, Bool.not_false, decide_true, decide_false, reduceIte, and_self, Bool.false_eq_true, bit71 hx, abin_and, iand_u8 hm (bitN_lt x), cast_ne0] <;> with_reducible rfl)))) | (with_reducible apply bind2_intro; (focus (first | with_reducible rfl | (simp only [walkR, get0, getS, Nat.zero_add, Nat.add_zero, Bool.not_true, Bool.not_false, decide_true, decide_false, reduceIte, and_self, Bool.false_eq_true, bit71 hx, abin_and, iand_u8 hm (bitN_lt x), cast_ne0] <;> with_reducible rfl)))) | with_reducible apply cond_t | with_reducible apply cond_f))
  exact ⟨rfl, rfl⟩

theorem won41 {m v : Nat} (hm : m < 256) (hv : v < 256) : Ahs.runT ap (n + 2) lim (.fn 41) [.int .u8 (m : Int), .int .u8 (v : Int)] H = some (.bool (wonN m v), H) := by
  refine run_eqn (F41_run (n := n + 1) a41 ?_)
  unfold F41
  have h31 : (31 : Int) = ((31 : Nat) : Int) := rfl
  have h1 : m &&& 31 < 256 := Nat.lt_of_le_of_lt Nat.and_le_left hm
  have h2 : (m &&& 31) &&& v < 256 := Nat.lt_of_le_of_lt Nat.and_le_left h1
  have hw : IntKind.i64.wrap (2 * (popN ((m &&& 31) &&& v) : Int)) = 2 * (popN ((m &&& 31) &&& v) : Int) := by
    have := popN_le ((m &&& 31) &&& v)
    exact wrap_i64 (by omega) (by omega)
  have e : decide ((popN (m &&& 31) : Int) < 2 * (popN ((m &&& 31) &&& v) : Int)) = wonN m v := by
    unfold wonN
    rw [decide_eq_decide]
    omega
  have a31 : abin .and (.int .u8 (m : Int)) (.int .u8 31) = some (.int .u8 ((m &&& 31 : Nat) : Int)) := by rw [abin_and, h31, iand_u8 hm (by omega)]
  (repeat (first | (with_reducible apply bindP_intro; (focus (first | with_reducible rfl | (simp only [walkR, get0, getS, Nat.zero_add, Nat.add_zero, Bool.not_true, Bool.not_false, decide_true, decide_false, reduceIte, and_self, Bool.false_eq_true, a31, abin_and, iand_u8 h1 hv, pop72 h1, pop72 h2, hw, e] <;> with_reducible rfl)))) | (with_reducible apply bind2_intro; (focus (first | with_reducible rfl | (simp only [walkR, get0, getS, Nat.zero_add, Nat.add_zero, Bool.not_true, Bool.not_false, decide_true, decide_false, reduceIte, and_self, Bool.false_eq_true, a31, abin_and, iand_u8 h1 hv, pop72 h1, pop72 h2, hw, e] <;> with_reducible rfl)))) | with_reducible apply cond_t | with_reducible apply cond_f))
  exact ⟨rfl, rfl⟩

theorem near42 {a b : Nat} (ha : a < 256) (hb : b < 256) : Ahs.runT ap (n + 2) lim (.fn 42) [.int .u8 (a : Int), .int .u8 (b : Int)] H = some (.bool (nearN a b), H) := by
  refine run_eqn (F42_run (n := n + 1) a42 ?_)
  unfold F42
  have h31 : (31 : Int) = ((31 : Nat) : Int) := rfl
  have h0 : a ^^^ b < 256 := Nat.xor_lt_two_pow (n := 8) ha hb
  have h1 : (a ^^^ b) &&& 31 < 256 := Nat.lt_of_le_of_lt Nat.and_le_left h0
  have e : decide ((popN ((a ^^^ b) &&& 31) : Int) ≤ 1) = nearN a b := by
    unfold nearN
    rw [decide_eq_decide]
    omega
  have a31 : abin .and (.int .u8 ((a ^^^ b : Nat) : Int)) (.int .u8 31) = some (.int .u8 (((a ^^^ b) &&& 31 : Nat) : Int)) := by rw [abin_and, h31, iand_u8 h0 (by omega)]
  (repeat (first | (with_reducible apply bindP_intro; (focus (first | with_reducible rfl | (simp only [walkR, get0, getS, Nat.zero_add, Nat.add_zero, Bool.not_true, Bool.not_false, decide_true, decide_false, reduceIte, and_self, Bool.false_eq_true, abin_xor, ixor_u8 ha hb, a31, pop72 h1, e] <;> with_reducible rfl)))) | (with_reducible apply bind2_intro; (focus (first | with_reducible rfl | (simp only [walkR, get0, getS, Nat.zero_add, Nat.add_zero, Bool.not_true, Bool.not_false, decide_true, decide_false, reduceIte, and_self, Bool.false_eq_true, abin_xor, ixor_u8 ha hb, a31, pop72 h1, e] <;> with_reducible rfl)))) | with_reducible apply cond_t | with_reducible apply cond_f))
  exact ⟨rfl, rfl⟩

/-- One more, one less: the membership, and the error. -/
def addN (m x : Nat) : Nat × Nat := if bitN x = 0 then (0, 1) else if hasN m x = true then (0, 5) else ((m ||| bitN x) &&& 31, 0)
def outN (m x : Nat) : Nat × Nat := if bitN x = 0 then (0, 1) else if hasN m x = true then ((m &&& (255 - bitN x)) &&& 31, 0) else (0, 4)

theorem and31_lt (x : Nat) : x &&& 31 < 256 := Nat.lt_of_le_of_lt Nat.and_le_right (by decide)
theorem or_lt {a b : Nat} (ha : a < 256) (hb : b < 256) : a ||| b < 256 := Nat.or_lt_two_pow (n := 8) ha hb
theorem and31 {m : Nat} (hm : m < 256) : abin .and (.int .u8 (m : Int)) (.int .u8 31) = some (.int .u8 ((m &&& 31 : Nat) : Int)) := by
  have h31 : (31 : Int) = ((31 : Nat) : Int) := rfl
  rw [abin_and, h31, iand_u8 hm (by omega)]

theorem add47 {m x : Nat} (hm : m < 256) (hx : x < 256) : Ahs.runT ap (n + 3) lim (.fn 47) [.int .u8 (m : Int), .int .u8 (x : Int)] H = some (.tup [.int .u8 ((addN m x).1 : Int), .int .i64 ((addN m x).2 : Int)], H) := by
  refine run_eqn (F47_run (n := n + 2) a47 ?_)
  unfold F47 addN
  by_cases h1 : bitN x = 0
  · have d1 : ((bitN x : Int) == 0) = true := by rw [h1]; rfl
    (repeat (first | (with_reducible apply bindP_intro; (focus (first | with_reducible rfl | (simp only [walkR, get0, getS, Nat.zero_add, Nat.add_zero, Bool.not_true, Bool.not_false, decide_true, decide_false, reduceIte, and_self, Bool.false_eq_true, bit71 (n := n + 1) hx, d1] <;> with_reducible rfl)))) | (with_reducible apply bind2_intro; (focus (first | with_reducible rfl | (simp only [walkR, get0, getS, Nat.zero_add, Nat.add_zero, Bool.not_true, Bool.not_false, decide_true, decide_false, reduceIte, and_self, Bool.false_eq_true, bit71 (n := n + 1) hx, d1] <;> with_reducible rfl)))) | with_reducible apply cond_t | with_reducible apply cond_f))
    rw [if_pos h1]
    exact ⟨rfl, rfl⟩
  · have d1 : ((bitN x : Int) == 0) = false := by rw [Bool.eq_false_iff]; simp; omega
    rw [if_neg h1]
    cases h2 : hasN m x with
    | true =>
      (repeat (first | (with_reducible apply bindP_intro; (focus (first | with_reducible rfl | (simp only [walkR, get0, getS, Nat.zero_add, Nat.add_zero, Bool.not_true, Bool.not_false, decide_true, decide_false, reduceIte, and_self, Bool.false_eq_true, bit71 (n := n + 1) hx, d1, has43 (n := n) hm hx, h2] <;> with_reducible rfl)))) | (with_reducible apply bind2_intro; (focus (first | with_reducible rfl | (simp only [walkR, get0, getS, Nat.zero_add, Nat.add_zero, Bool.not_true, Bool.not_false, decide_true, decide_false, reduceIte, and_self, Bool.false_eq_true, bit71 (n := n + 1) hx, d1, has43 (n := n) hm hx, h2] <;> with_reducible rfl)))) | with_reducible apply cond_t | with_reducible apply cond_f))
      exact ⟨rfl, rfl⟩
    | false =>
      (repeat (first | (with_reducible apply bindP_intro; (focus (first | with_reducible rfl | (simp only [walkR, get0, getS, Nat.zero_add, Nat.add_zero, Bool.not_true, Bool.not_false, decide_true, decide_false, reduceIte, and_self, Bool.false_eq_true, bit71 (n := n + 1) hx, d1, has43 (n := n) hm hx, h2, abin_or, ior_u8 hm (bitN_lt x), and31 (or_lt hm (bitN_lt x))] <;> with_reducible rfl)))) | (with_reducible apply bind2_intro; (focus (first | with_reducible rfl | (simp only [walkR, get0, getS, Nat.zero_add, Nat.add_zero, Bool.not_true, Bool.not_false, decide_true, decide_false, reduceIte, and_self, Bool.false_eq_true, bit71 (n := n + 1) hx, d1, has43 (n := n) hm hx, h2, abin_or, ior_u8 hm (bitN_lt x), and31 (or_lt hm (bitN_lt x))] <;> with_reducible rfl)))) | with_reducible apply cond_t | with_reducible apply cond_f))
      exact ⟨rfl, rfl⟩

end
end Go.Proofs.Ytpefhojmfcenfaa.conf
