/- More equations for symbolic runs: bytes and their bits; what primitives give. -/
import Derived.Test.YtnlimogbokkfpaaGreatChsA22
set_option linter.unusedSimpArgs false
set_option linter.unusedVariables false
namespace Go.Ahs
theorem wrap_u8 {n : Nat} (h : n < 256) : IntKind.u8.wrap (n : Int) = n := wrap_id (by show (0 : Int) ≤ n; omega) (by show (n : Int) ≤ 255; omega)
theorem ofInt_nat (w n : Nat) : BitVec.ofInt w (n : Int) = BitVec.ofNat w n := by simp
theorem iand_u8 {a b : Nat} (ha : a < 256) (hb : b < 256) : iand .u8 (a : Int) (b : Int) = ((a &&& b : Nat) : Int) := by
 unfold iand bitsOp
 show IntKind.u8.wrap ((BitVec.ofInt 8 (a : Int) &&& BitVec.ofInt 8 (b : Int)).toNat : Int) = _
 rw [ofInt_nat, ofInt_nat, BitVec.toNat_and, BitVec.toNat_ofNat, BitVec.toNat_ofNat, Nat.mod_eq_of_lt ha, Nat.mod_eq_of_lt hb]
 exact wrap_u8 (Nat.lt_of_le_of_lt Nat.and_le_left ha)
theorem ior_u8 {a b : Nat} (ha : a < 256) (hb : b < 256) : ior .u8 (a : Int) (b : Int) = ((a ||| b : Nat) : Int) := by
 unfold ior bitsOp
 show IntKind.u8.wrap ((BitVec.ofInt 8 (a : Int) ||| BitVec.ofInt 8 (b : Int)).toNat : Int) = _
 rw [ofInt_nat, ofInt_nat, BitVec.toNat_or, BitVec.toNat_ofNat, BitVec.toNat_ofNat, Nat.mod_eq_of_lt ha, Nat.mod_eq_of_lt hb]
 exact wrap_u8 (Nat.or_lt_two_pow (n := 8) ha hb)
theorem ixor_u8 {a b : Nat} (ha : a < 256) (hb : b < 256) : ixor .u8 (a : Int) (b : Int) = ((a ^^^ b : Nat) : Int) := by
 unfold ixor bitsOp
 show IntKind.u8.wrap ((BitVec.ofInt 8 (a : Int) ^^^ BitVec.ofInt 8 (b : Int)).toNat : Int) = _
 rw [ofInt_nat, ofInt_nat, BitVec.toNat_xor, BitVec.toNat_ofNat, BitVec.toNat_ofNat, Nat.mod_eq_of_lt ha, Nat.mod_eq_of_lt hb]
 exact wrap_u8 (Nat.xor_lt_two_pow (n := 8) ha hb)
theorem prim1_byte (g : Nat → AVal) (lim : Nat) (H : Heap) {x : Nat} (hx : x < 256) : prim1 g lim [.int .u8 (x : Int)] H = some (g x, H) := by
 simp only [prim1, byte_nat hx, Option.map_some]
theorem prim2_byte (g : Nat → Nat → AVal) (lim : Nat) (H : Heap) {x y : Nat} (hx : x < 256) (hy : y < 256) : prim2 g lim [.int .u8 (x : Int), .int .u8 (y : Int)] H = some (g x y, H) := by
 simp only [prim2, byte_nat hx, byte_nat hy, Option.bind_some, Option.map_some]
section
variable {P : Program} {ap : FuncId → Option AFn}
theorem PrimOK.sym1 (hP : P.follows .mixedOrders = true) (hap : ∀ f af, ap f = some af → FnOK P f af) {f : FuncId} {af : AFn} (hf : ap f = some af) (n : Nat) (g : Nat → AVal)
  (h : ∀ lim H (x : Nat), x < 256 → run ap n lim f [.int .u8 (x : Int)] H = some (g x, H)) : PrimOK P f (prim1 g) :=
 PrimOK.of_run hP hap hf fun lim args H v H' hg => ⟨n, by
  unfold prim1 at hg
  split at hg
  ·simp only [Option.map_eq_some_iff] at hg
   obtain ⟨x, hx, h2⟩ := hg
   simp at h2; obtain ⟨rfl, rfl⟩ := h2
   obtain ⟨rfl, hx'⟩ := byte_inv hx
   exact h lim H x hx'
  ·simp at hg⟩
theorem PrimOK.sym2 (hP : P.follows .mixedOrders = true) (hap : ∀ f af, ap f = some af → FnOK P f af) {f : FuncId} {af : AFn} (hf : ap f = some af) (n : Nat) (g : Nat → Nat → AVal)
  (h : ∀ lim H (x y : Nat), x < 256 → y < 256 → run ap n lim f [.int .u8 (x : Int), .int .u8 (y : Int)] H = some (g x y, H)) : PrimOK P f (prim2 g) :=
 PrimOK.of_run hP hap hf fun lim args H v H' hg => ⟨n, by
  unfold prim2 at hg
  split at hg
  ·simp only [Option.bind_eq_some_iff, Option.map_eq_some_iff] at hg
   obtain ⟨x, hx, y, hy, h2⟩ := hg
   simp at h2; obtain ⟨rfl, rfl⟩ := h2
   obtain ⟨rfl, hx'⟩ := byte_inv hx
   obtain ⟨rfl, hy'⟩ := byte_inv hy
   exact h lim H x y hx' hy'
  ·simp at hg⟩
end
end Go.Ahs
