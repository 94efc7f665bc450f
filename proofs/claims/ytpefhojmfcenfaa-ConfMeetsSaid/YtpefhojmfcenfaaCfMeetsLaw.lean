/- The plain law of ConfMeets: two near memberships' majorities meet. -/
import Derived.Test.YtpefhojmfcenfaaCfMeets
set_option maxRecDepth 100000
namespace Go.Proofs.Ytpefhojmfcenfaa.conf
open Go.Ahs

theorem hasBits : allBelow (fun m => hasN m 1 == m.testBit 0 && hasN m 2 == m.testBit 1 && hasN m 3 == m.testBit 2 && hasN m 4 == m.testBit 3 && hasN m 5 == m.testBit 4) 256 = true := by kernel_rfl

theorem hasBit {m : Nat} (h : m < 256) : hasN m 1 = m.testBit 0 ∧ hasN m 2 = m.testBit 1 ∧ hasN m 3 = m.testBit 2 ∧ hasN m 4 = m.testBit 3 ∧ hasN m 5 = m.testBit 4 := by
  have := allBelow_get hasBits m h
  simp only [Bool.and_eq_true, beq_iff_eq] at this
  obtain ⟨⟨⟨⟨h1, h2⟩, h3⟩, h4⟩, h5⟩ := this
  exact ⟨h1, h2, h3, h4, h5⟩

theorem popBits (z : Nat) : popN z = (z.testBit 0).toNat + (z.testBit 1).toNat + (z.testBit 2).toNat + (z.testBit 3).toNat + (z.testBit 4).toNat + (z.testBit 5).toNat + (z.testBit 6).toNat + (z.testBit 7).toNat := by
  simp only [Nat.toNat_testBit]
  unfold popN
  simp

theorem mask (i : Nat) : (31 : Nat).testBit i = decide (i < 5) := by
  have : (31 : Nat) = 2 ^ 5 - 1 := rfl
  rw [this, Nat.testBit_two_pow_sub_one]

theorem pop31 (z : Nat) : popN (z &&& 31) = (z.testBit 0).toNat + (z.testBit 1).toNat + (z.testBit 2).toNat + (z.testBit 3).toNat + (z.testBit 4).toNat := by
  rw [popBits]
  simp [Nat.testBit_and, mask]

theorem pop31v (z v : Nat) : popN ((z &&& 31) &&& v) = (z.testBit 0 && v.testBit 0).toNat + (z.testBit 1 && v.testBit 1).toNat + (z.testBit 2 && v.testBit 2).toNat + (z.testBit 3 && v.testBit 3).toNat + (z.testBit 4 && v.testBit 4).toNat := by
  rw [popBits]
  simp [Nat.testBit_and, mask]

theorem bitlaw : ∀ (a b x y : Bool), (a && b && x && y) = false → 2 * ((a && x).toNat + (b && y).toNat) ≤ a.toNat + b.toNat + (a ^^ b).toNat := by decide

theorem meets_law {a b x y : Nat} (ha : a < 256) (hb : b < 256) (hx : x < 256) (hy : y < 256) (h1 : nearN a b = true) (h2 : wonN a x = true) (h3 : wonN b y = true) :
    (four a b x y 1 || four a b x y 2 || four a b x y 3 || four a b x y 4 || four a b x y 5) = true := by
  unfold nearN at h1
  unfold wonN at h2 h3
  simp only [decide_eq_true_eq] at h1 h2 h3
  rw [pop31] at h1 h2 h3
  rw [pop31v] at h2 h3
  simp only [Nat.testBit_xor] at h1
  unfold four
  obtain ⟨a1, a2, a3, a4, a5⟩ := hasBit ha
  obtain ⟨b1, b2, b3, b4, b5⟩ := hasBit hb
  obtain ⟨x1, x2, x3, x4, x5⟩ := hasBit hx
  obtain ⟨y1, y2, y3, y4, y5⟩ := hasBit hy
  rw [a1, a2, a3, a4, a5, b1, b2, b3, b4, b5, x1, x2, x3, x4, x5, y1, y2, y3, y4, y5]
  cases hc : (a.testBit 0 && b.testBit 0 && x.testBit 0 && y.testBit 0 || a.testBit 1 && b.testBit 1 && x.testBit 1 && y.testBit 1 || a.testBit 2 && b.testBit 2 && x.testBit 2 && y.testBit 2 || a.testBit 3 && b.testBit 3 && x.testBit 3 && y.testBit 3 || a.testBit 4 && b.testBit 4 && x.testBit 4 && y.testBit 4) with
  | true => rfl
  | false =>
    exfalso
    simp only [Bool.or_eq_false_iff] at hc
    obtain ⟨⟨⟨⟨c0, c1⟩, c2⟩, c3⟩, c4⟩ := hc
    have l0 := bitlaw _ _ _ _ c0
    have l1 := bitlaw _ _ _ _ c1
    have l2 := bitlaw _ _ _ _ c2
    have l3 := bitlaw _ _ _ _ c3
    have l4 := bitlaw _ _ _ _ c4
    omega

theorem meets (H : Heap) (lim : Nat) {a b x y : Nat} (ha : a < 256) (hb : b < 256) (hx : x < 256) (hy : y < 256) :
    run ap2 20 lim 11 [.int .u8 (a : Int), .int .u8 (b : Int), .int .u8 (x : Int), .int .u8 (y : Int)] H = some (.bool true, H) :=
  meets_run H ha hb hx hy (meets_law ha hb hx hy) lim
#print axioms meets
end Go.Proofs.Ytpefhojmfcenfaa.conf
