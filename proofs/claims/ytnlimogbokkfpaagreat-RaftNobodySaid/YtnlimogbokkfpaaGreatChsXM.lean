/- Several small texts, put together. -/
import Derived.Test.YtnlimogbokkfpaaGreatChsX1
import Derived.Test.YtnlimogbokkfpaaGreatChsX2
set_option linter.unusedSimpArgs false
set_option linter.unusedVariables false
namespace Go.Ahs
def encB (l : List UInt8) : List AVal := l.map fun c => .int .u8 (c.toNat : Int)
theorem encB_len (l : List UInt8) : (encB l).length = l.length := by unfold encB; simp
theorem encB_app (l m : List UInt8) : encB (l ++ m) = encB l ++ encB m := by unfold encB; simp
theorem encB_inj {l m : List UInt8} (h : encB l = encB m) : l = m := by
 unfold encB at h
 refine List.map_inj_right (f := fun c : UInt8 => AVal.int .u8 (c.toNat : Int)) (fun a b e => ?_) |>.1 h
 simp only [AVal.int.injEq, true_and] at e
 exact UInt8.toNat_inj.1 (by omega)
theorem encB_one (l : List UInt8) : (encB l).all (·.one) = true := by
 unfold encB
 rw [List.all_eq_true]
 intro x hx
 obtain ⟨c, _, rfl⟩ := List.mem_map.1 hx
 rfl
theorem cells_bytes : ∀ (xs ys : List UInt8), xs.length = ys.length → cellsEq (List.replicate xs.length (.int .u8)) (encB xs) (encB ys) = some (decide (xs = ys))
 | [], [], _ => rfl
 | x :: xs, y :: ys, h => by
  have ih := cells_bytes xs ys (by simpa using h)
  show (match leafEq (.int .u8) (.int .u8 (x.toNat : Int)) (.int .u8 (y.toNat : Int)), cellsEq (List.replicate xs.length (.int .u8)) (encB xs) (encB ys) with
   | some a, some b => some (a && b)
   | _, _ => none) = _
  rw [ih]
  have hx : ((x.toNat : Int) == (y.toNat : Int)) = decide (x = y) := by
   rw [Bool.eq_iff_iff]
   simp only [beq_iff_eq, decide_eq_true_eq]
   exact ⟨fun e => UInt8.toNat_inj.1 (by omega), fun e => by rw [e]⟩
  simp only [leafEq, and_self, if_true, hx]
  congr 1
  rw [Bool.eq_iff_iff]
  simp
 | [], _ :: _, h => by simp at h
 | _ :: _, [], h => by simp at h
abbrev Tok := { l : List UInt8 // l.length = 8 }
def tokK : KeyK Tok where
 agg := true
 ls := List.replicate 8 (.int .u8)
 enc t := .agg (encB t.1)
 eq := fun a b => by
  have h := cells_bytes a.1 b.1 (by rw [a.2, b.2])
  rw [a.2] at h
  simp only [keyEq, keyCells, if_true, h]
  congr 1
  rw [Bool.eq_iff_iff]
  simp [Subtype.ext_iff]
end Go.Ahs
namespace Go.Ahs
theorem wrapN_u64 {n : Nat} (h : n < 18446744073709551616) : IntKind.u64.wrap (n : Int) = (n : Int) := wrap_u64 (by omega) (by omega)
theorem wrapN_u8 {n : Nat} (h : n < 256) : IntKind.u8.wrap (n : Int) = (n : Int) := wrap_id (by show (0 : Int) ≤ _; omega) (by show _ ≤ (255 : Int); omega)
theorem and_u64 {a b : Nat} (ha : a < 18446744073709551616) (hb : b < 18446744073709551616) : iand .u64 (a : Int) (b : Int) = ((a &&& b : Nat) : Int) := by
 unfold iand bitsOp
 show IntKind.u64.wrap (((BitVec.ofInt 64 (a : Int)) &&& (BitVec.ofInt 64 (b : Int))).toNat : Int) = _
 have e : ((BitVec.ofInt 64 (a : Int)) &&& (BitVec.ofInt 64 (b : Int))).toNat = a &&& b := by
  rw [BitVec.toNat_and, BitVec.ofInt_natCast, BitVec.ofInt_natCast, BitVec.toNat_ofNat, BitVec.toNat_ofNat, Nat.mod_eq_of_lt ha, Nat.mod_eq_of_lt hb]
 rw [e]
 exact wrapN_u64 (Nat.lt_of_le_of_lt Nat.and_le_left ha)
theorem or_u64 {a b : Nat} (ha : a < 18446744073709551616) (hb : b < 18446744073709551616) : ior .u64 (a : Int) (b : Int) = ((a ||| b : Nat) : Int) := by
 unfold ior bitsOp
 show IntKind.u64.wrap (((BitVec.ofInt 64 (a : Int)) ||| (BitVec.ofInt 64 (b : Int))).toNat : Int) = _
 have e : ((BitVec.ofInt 64 (a : Int)) ||| (BitVec.ofInt 64 (b : Int))).toNat = a ||| b := by
  rw [BitVec.toNat_or, BitVec.ofInt_natCast, BitVec.ofInt_natCast, BitVec.toNat_ofNat, BitVec.toNat_ofNat, Nat.mod_eq_of_lt ha, Nat.mod_eq_of_lt hb]
 rw [e]
 exact wrapN_u64 (Nat.or_lt_two_pow (n := 64) ha hb)
theorem and_u8 {a b : Nat} (ha : a < 256) (hb : b < 256) : iand .u8 (a : Int) (b : Int) = ((a &&& b : Nat) : Int) := by
 unfold iand bitsOp
 show IntKind.u8.wrap (((BitVec.ofInt 8 (a : Int)) &&& (BitVec.ofInt 8 (b : Int))).toNat : Int) = _
 have e : ((BitVec.ofInt 8 (a : Int)) &&& (BitVec.ofInt 8 (b : Int))).toNat = a &&& b := by
  rw [BitVec.toNat_and, BitVec.ofInt_natCast, BitVec.ofInt_natCast, BitVec.toNat_ofNat, BitVec.toNat_ofNat, Nat.mod_eq_of_lt ha, Nat.mod_eq_of_lt hb]
 rw [e]
 exact wrapN_u8 (Nat.lt_of_le_of_lt Nat.and_le_left ha)
theorem or_u8 {a b : Nat} (ha : a < 256) (hb : b < 256) : ior .u8 (a : Int) (b : Int) = ((a ||| b : Nat) : Int) := by
 unfold ior bitsOp
 show IntKind.u8.wrap (((BitVec.ofInt 8 (a : Int)) ||| (BitVec.ofInt 8 (b : Int))).toNat : Int) = _
 have e : ((BitVec.ofInt 8 (a : Int)) ||| (BitVec.ofInt 8 (b : Int))).toNat = a ||| b := by
  rw [BitVec.toNat_or, BitVec.ofInt_natCast, BitVec.ofInt_natCast, BitVec.toNat_ofNat, BitVec.toNat_ofNat, Nat.mod_eq_of_lt ha, Nat.mod_eq_of_lt hb]
 rw [e]
 exact wrapN_u8 (Nat.or_lt_two_pow (n := 8) ha hb)
theorem and127 {n : Nat} (h : n < 18446744073709551616) : iand .u64 (n : Int) 127 = ((n % 128 : Nat) : Int) := by
 have := and_u64 h (b := 127) (by decide)
 rw [show n &&& 127 = n % 128 from Nat.and_two_pow_sub_one_eq_mod n 7] at this
 exact this
theorem and127b {n : Nat} (h : n < 256) : iand .u8 (n : Int) 127 = ((n % 128 : Nat) : Int) := by
 have := and_u8 h (b := 127) (by decide)
 rw [show n &&& 127 = n % 128 from Nat.and_two_pow_sub_one_eq_mod n 7] at this
 exact this
set_option maxRecDepth 100000 in
theorem and128b {n : Nat} (h : n < 256) : (iand .u8 (n : Int) 128 == 0) = decide (n < 128) := by
 have := and_u8 h (b := 128) (by decide)
 have e : iand .u8 (n : Int) 128 = ((n &&& 128 : Nat) : Int) := this
 rw [e]
 have hd : ∀ n, n < 256 → (((n &&& 128 : Nat) == 0) = decide (n < 128)) := by decide
 rw [← hd n h, Bool.eq_iff_iff]
 simp only [beq_iff_eq]
 omega
theorem or128 {m : Nat} (h : m < 128) : ior .u8 (m : Int) 128 = ((m + 128 : Nat) : Int) := by
 have := or_u8 (a := m) (b := 128) (by omega) (by decide)
 have e := Nat.two_pow_add_eq_or_of_lt (i := 7) (b := m) h 1
 rw [show (2 : Nat) ^ 7 * 1 = 128 from rfl] at e
 rw [show m ||| 128 = m + 128 by rw [Nat.or_comm, ← e]; omega] at this
 exact this
theorem or7 {n m : Nat} (h : n < 144115188075855872) (hm : m < 128) : ior .u64 ((n * 128 : Nat) : Int) (m : Int) = ((n * 128 + m : Nat) : Int) := by
 rw [or_u64 (by omega) (by omega)]
 have e := Nat.two_pow_add_eq_or_of_lt (i := 7) (b := m) hm n
 rw [show (2 : Nat) ^ 7 * n = n * 128 by rw [Nat.mul_comm]] at e
 rw [e]
theorem shl7 {n : Nat} (h : n < 144115188075855872) : abin .shl (.int .u64 (n : Int)) (.int .u64 7) = some (.int .u64 ((n * 128 : Nat) : Int)) := by
 refine (abin_shl (k := .u64) (a := (n : Int)) (b := 7) .u64 (by decide)).trans ?_
 have : ((n : Int) * 2 ^ (min (7 : Int).toNat IntKind.u64.bits)) = ((n * 128 : Nat) : Int) := by
  rw [show min (7 : Int).toNat IntKind.u64.bits = 7 from rfl]; omega
 rw [this, wrapN_u64 (by omega)]
theorem shr7 (n : Nat) : abin .shr (.int .u64 (n : Int)) (.int .u64 7) = some (.int .u64 ((n / 128 : Nat) : Int)) := by
 refine (abin_shr (k := .u64) (a := (n : Int)) (b := 7) .u64 (by decide)).trans ?_
 have : (n : Int).fdiv (2 ^ (min (7 : Int).toNat IntKind.u64.bits)) = ((n / 128 : Nat) : Int) := by
  rw [show min (7 : Int).toNat IntKind.u64.bits = 7 from rfl, Int.fdiv_eq_ediv_of_nonneg _ (by decide)]; omega
 rw [this]
theorem shr57 (n : Nat) : abin .shr (.int .u64 (n : Int)) (.int .u64 57) = some (.int .u64 ((n / 144115188075855872 : Nat) : Int)) := by
 refine (abin_shr (k := .u64) (a := (n : Int)) (b := 57) .u64 (by decide)).trans ?_
 have : (n : Int).fdiv (2 ^ (min (57 : Int).toNat IntKind.u64.bits)) = ((n / 144115188075855872 : Nat) : Int) := by
  rw [show min (57 : Int).toNat IntKind.u64.bits = 57 from rfl, Int.fdiv_eq_ediv_of_nonneg _ (by decide)]; omega
 rw [this]
end Go.Ahs
namespace Go.Ahs
def plainV : AVal → Bool
 | .int _ _ | .bool _ | .str _ | .ptr _ | .sl _ _ _ | .map _ | .nilFn | .nilIface => true
 | _ => false
theorem sameV_refl {v : AVal} (h : plainV v = true) : sameV v v = true := by
 cases v <;> simp [plainV] at h <;> simp [sameV]
theorem sameL_refl : ∀ {xs : List AVal}, xs.all plainV = true → sameL xs xs = true
 | [], _ => rfl
 | x :: xs, h => by
  simp only [List.all_cons, Bool.and_eq_true] at h
  simp only [sameL, sameV_refl h.1, sameL_refl h.2, Bool.and_self]
theorem keptG_of {g : Option (AVal × Bool)} {H H' : Heap} {l : List AVal} (hk : Keeps2 H H') (h : ∀ v ∈ l, ∀ b, blkOf v = some b → ∃ cs, H.cells b = some cs ∧ cs.all plainV = true) : keptG g H H' l := by
 have main : (l.all fun v => match blkOf v with
  | some b => sameB (H.get b) (H'.get b)
  | none => true) = true := by
  rw [List.all_eq_true]
  intro v hv
  cases hb : blkOf v with
  | none => rfl
  | some b =>
   obtain ⟨cs, h1, h2⟩ := h v hv b hb
   have h3 := Heap.cells_eq.1 h1
   have h4 := Heap.cells_eq.1 (hk.cells h1)
   simp only [h3, h4, sameB, sameL_refl h2]
 unfold keptG
 cases g with
 | none => exact main
 | some g => exact fun _ => main
end Go.Ahs
namespace Go.Ahs
theorem walkS : (type_of% @walkR) ∧ (type_of% @get0) ∧ (type_of% @getS) ∧ (type_of% @Nat.zero_add) ∧ (type_of% @Nat.add_zero) ∧ (type_of% Bool.not_true) ∧ (type_of% Bool.not_false) ∧ (type_of% @decide_true) ∧ (type_of% @decide_false) ∧ (type_of% and_self) ∧ (type_of% Bool.false_eq_true) :=
 ⟨@walkR, @get0, @getS, @Nat.zero_add, @Nat.add_zero, Bool.not_true, Bool.not_false, @decide_true, @decide_false, and_self, Bool.false_eq_true⟩
end Go.Ahs
namespace Go.Ahs
def vHigh (n : Nat) : List UInt8 := if h : n = 0 then [] else vHigh (n / 128) ++ [UInt8.ofNat (n % 128 + 128)]
decreasing_by exact Nat.div_lt_self (Nat.pos_of_ne_zero h) (by decide)
def vNum (n : Nat) : List UInt8 := vHigh (n / 128) ++ [UInt8.ofNat (n % 128)]
theorem vHigh_zero : vHigh 0 = [] := by rw [vHigh]; rfl
theorem vHigh_pos {n : Nat} (h : n ≠ 0) : vHigh n = vHigh (n / 128) ++ [UInt8.ofNat (n % 128 + 128)] := by rw [vHigh, dif_neg h]
theorem vHigh_len : ∀ (k n : Nat), n < 128 ^ k → (vHigh n).length ≤ k
 | 0, n, h => by
  have : n = 0 := by simpa using h
  subst this; rw [vHigh_zero]; exact Nat.le_refl _
 | k + 1, n, h => by
  by_cases h0 : n = 0
  ·subst h0; rw [vHigh_zero]; exact Nat.zero_le _
  ·rw [vHigh_pos h0, List.length_append]
   have := vHigh_len k (n / 128) (by rw [Nat.pow_succ] at h; exact Nat.div_lt_of_lt_mul (by omega))
   simp; exact this
theorem vNum_ne (n : Nat) : vNum n ≠ [] := by unfold vNum; simp
theorem vNum_len {n : Nat} (h : n < 18446744073709551616) : (vNum n).length ≤ 10 := by
 unfold vNum
 have := vHigh_len 9 (n / 128) (by
  have : (128 : Nat) ^ 9 = 9223372036854775808 := by decide
  omega)
 simp; omega
def rVgo : Nat → Nat → Nat → List UInt8 → Option (Nat × Nat)
 | 0, _, _, _ => none
 | _ + 1, _, _, [] => none
 | k + 1, n, i, c :: r =>
  if (i = 0 ∧ c.toNat = 128) ∨ 144115188075855872 ≤ n then none else
  if c.toNat < 128 then some (n * 128 + c.toNat % 128, i + 1) else rVgo k (n * 128 + c.toNat % 128) (i + 1) r
def rV (s : List UInt8) : Option (Nat × Nat) := rVgo 10 0 0 s
theorem toNat_of {n : Nat} (h : n < 256) : (UInt8.ofNat n).toNat = n := by
 rw [UInt8.toNat_ofNat']; exact Nat.mod_eq_of_lt h
theorem rVgo_high : ∀ (l m : Nat) (r : List UInt8), m < l → m < 144115188075855872 → (vHigh m).length ≤ 9 → rVgo 10 0 0 (vHigh m ++ r) = rVgo (10 - (vHigh m).length) m (vHigh m).length r
 | 0, m, r, h, _, _ => by omega
 | l + 1, m, r, h, hm, hl => by
  by_cases h0 : m = 0
  ·subst h0; rw [vHigh_zero]; rfl
  ·rw [vHigh_pos h0] at hl ⊢
   rw [List.length_append] at hl ⊢
   simp only [List.length_cons, List.length_nil] at hl ⊢
   have hlt : m / 128 < m := Nat.div_lt_self (Nat.pos_of_ne_zero h0) (by decide)
   rw [List.append_assoc, rVgo_high l (m / 128) _ (by omega) (by omega) (by omega)]
   obtain ⟨k, hk⟩ : ∃ k, 10 - (vHigh (m / 128)).length = k + 1 := ⟨10 - (vHigh (m / 128)).length - 1, by omega⟩
   rw [hk]
   have hb : (UInt8.ofNat (m % 128 + 128)).toNat = m % 128 + 128 := toNat_of (by omega)
   show (if _ then none else if _ then _ else rVgo k _ _ r) = _
   rw [if_neg, if_neg, hb]
   ·congr 1
    ·omega
    ·omega
   ·rw [hb]; omega
   ·rw [hb]
    rintro (⟨h1, h2⟩ | h1)
    ·have : m / 128 = 0 := by
      by_cases hz : m / 128 = 0
      ·exact hz
      ·rw [vHigh_pos hz] at h1; simp at h1
     omega
    ·omega
theorem rV_vNum {n : Nat} (h : n < 18446744073709551616) (t : List UInt8) : rV (vNum n ++ t) = some (n, (vNum n).length) := by
 unfold rV vNum
 have hl : (vHigh (n / 128)).length ≤ 9 := vHigh_len 9 (n / 128) (by
  have : (128 : Nat) ^ 9 = 9223372036854775808 := by decide
  omega)
 rw [List.append_assoc, rVgo_high (n / 128 + 1) (n / 128) _ (by omega) (by omega) hl]
 obtain ⟨k, hk⟩ : ∃ k, 10 - (vHigh (n / 128)).length = k + 1 := ⟨10 - (vHigh (n / 128)).length - 1, by omega⟩
 rw [hk]
 have hb : (UInt8.ofNat (n % 128)).toNat = n % 128 := toNat_of (by omega)
 show (if _ then none else if _ then _ else rVgo k _ _ t) = _
 rw [if_neg, if_pos, hb, List.length_append]
 ·congr 2
  omega
 ·rw [hb]; omega
 ·rw [hb]; omega
theorem rVgo_some : ∀ (k n i : Nat) (s p : List UInt8) {n' j : Nat}, p = vHigh n → i = p.length → (i = 0 ∨ n ≠ 0) → rVgo k n i s = some (n', j) → ∃ q t, s = q ++ t ∧ p ++ q = vNum n' ∧ j = (vNum n').length ∧ n' < 18446744073709551616
 | 0, n, i, s, p, n', j, _, _, _, h => by simp [rVgo] at h
 | k + 1, n, i, [], p, n', j, _, _, _, h => by simp [rVgo] at h
 | k + 1, n, i, c :: r, p, n', j, hp, hi, hz, h => by
  unfold rVgo at h
  split at h
  ·simp at h
  rename_i hc
  have hcl : c.toNat < 256 := c.toNat_lt
  have hcn : ¬ (i = 0 ∧ c.toNat = 128) ∧ n < 144115188075855872 := ⟨fun e => hc (.inl e), by omega⟩
  split at h
  ·rename_i h1
   simp only [Option.some.injEq, Prod.mk.injEq] at h
   obtain ⟨rfl, rfl⟩ := h
   have e1 : c.toNat % 128 = c.toNat := Nat.mod_eq_of_lt h1
   have e : vNum (n * 128 + c.toNat % 128) = p ++ [c] := by
    unfold vNum
    rw [show (n * 128 + c.toNat % 128) / 128 = n by omega, show (n * 128 + c.toNat % 128) % 128 = c.toNat by omega, hp]
    simp
   exact ⟨[c], r, rfl, e.symm, by rw [e, List.length_append, hi]; rfl, by omega⟩
  ·rename_i h1
   have hne : n * 128 + c.toNat % 128 ≠ 0 := by
    rcases hz with hz | hz
    ·have : c.toNat ≠ 128 := fun e => hcn.1 ⟨hz, e⟩
     omega
    ·omega
   have e : vHigh (n * 128 + c.toNat % 128) = p ++ [c] := by
    rw [vHigh_pos hne, show (n * 128 + c.toNat % 128) / 128 = n by omega, show (n * 128 + c.toNat % 128) % 128 + 128 = c.toNat by omega, hp]
    simp
   obtain ⟨q, t, g1, g2, g3, g4⟩ := rVgo_some k _ (i + 1) r (p ++ [c]) e.symm (by rw [List.length_append, hi]; rfl) (.inr hne) h
   exact ⟨c :: q, t, by rw [g1]; rfl, by rw [← g2]; simp, g3, g4⟩
theorem rV_some {s : List UInt8} {n k : Nat} (h : rV s = some (n, k)) : ∃ t, s = vNum n ++ t ∧ k = (vNum n).length ∧ n < 18446744073709551616 := by
 obtain ⟨q, t, g1, g2, g3, g4⟩ := rVgo_some 10 0 0 s [] vHigh_zero.symm rfl (.inl rfl) h
 exact ⟨t, by rw [g1, ← g2]; rfl, g3, g4⟩
end Go.Ahs
