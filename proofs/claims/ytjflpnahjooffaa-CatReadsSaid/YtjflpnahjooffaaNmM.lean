/- Numbers as groups: what the document's own functions come to. -/
import Derived.Test.YtjflpnahjooffaaCxPr
import Derived.Test.YtjflpnahjooffaaCxW0
import Derived.Test.YtjflpnahjooffaaChsXM
set_option maxRecDepth 100000
set_option linter.unusedVariables false
set_option linter.unusedSimpArgs false
namespace Go.Proofs.Ytjflpnahjooffaa.cat
open Go.Ahs
theorem sadd {a b : List UInt8} (h : a.length + b.length < 9223372036854775808) : abin .add (.str a) (.str b) = some (.str (a ++ b)) := by
 show (if ((a.length + b.length : Nat) : Int) > 9223372036854775807 then none else some (AVal.str (a ++ b))) = _
 rw [if_neg (by omega)]
theorem quo128 (m : Nat) (h : m < 18446744073709551616) : abin .quo (.int .u64 (m : Int)) (.int .u64 128) = some (.int .u64 ((m / 128 : Nat) : Int)) := by
 refine (abin_quo (k := .u64) (a := (m : Int)) (b := 128) (by decide)).trans ?_
 have : (m : Int).tdiv 128 = ((m / 128 : Nat) : Int) := by rw [Int.tdiv_eq_ediv_of_nonneg (by omega)]; omega
 rw [this, wrapN_u64 (by omega)]
theorem rem128 (m : Nat) : abin .rem (.int .u64 (m : Int)) (.int .u64 128) = some (.int .u64 ((m % 128 : Nat) : Int)) := by
 refine (abin_rem (k := .u64) (a := (m : Int)) (b := 128) (by decide)).trans ?_
 have : (m : Int).tmod 128 = ((m % 128 : Nat) : Int) := by rw [Int.tmod_eq_emod_of_nonneg (by omega)]; omega
 rw [this]
theorem bytes_enc : ∀ l : List UInt8, bytesOfCells (encB l) = some l
 | [] => rfl
 | c :: l => by
  have h0 : (0 : Int) ≤ (c.toNat : Int) ∧ (c.toNat : Int) < 256 := ⟨by omega, by have := c.toNat_lt; omega⟩
  have hc : UInt8.ofNat ((c.toNat : Int)).toNat = c := by
   rw [Int.toNat_natCast]; exact UInt8.ofNat_toNat
  show (bytesOfCells (.int .u8 (c.toNat : Int) :: encB l)) = _
  simp [bytesOfCells, bytes_enc l, h0, hc]
theorem byte_one (H : Heap) {m : Nat} (h : m < 256) : abytesToStr (H.push (.cells [.int .u8 (m : Int)])) (.sl (some (H.next, 0)) 1 (.ex 1)) = some (.str [UInt8.ofNat m]) := by
 have he : [AVal.int .u8 (m : Int)] = encB [UInt8.ofNat m] := by
  unfold encB
  simp [Nat.mod_eq_of_lt h]
 have hq := bytes_enc [UInt8.ofNat m]
 rw [← he] at hq
 unfold abytesToStr
 simp only [cells_push_new, Option.bind_eq_bind, Option.bind_some]
 show (cut [AVal.int .u8 (m : Int)] 0 1).bind _ = _
 rw [show Ahs.cut [AVal.int .u8 (m : Int)] 0 1 = some [AVal.int .u8 (m : Int)] from rfl]
 simp only [Option.bind_some, hq]
theorem fill_one (x : AVal) (h : x.cells = [x]) : fillV [(.int .u8 0)] [(0, 1, x)] = some [x] := by
 unfold fillV
 rw [h]
 rfl
section
variable {H : Heap}
theorem one_loop {n lim N : Nat} {K : AVal → Heap → Prop} {fin : List UInt8} {H0 : Heap} (hf : fin.length ≤ 10) (hK : ∀ H', Keeps2 H0 H' → K (.str fin) H') :
  ∀ (j m : Nat) (s : List UInt8) (H : Heap), m < 18446744073709551616 → m < 128 ^ j → Keeps2 H0 H → vHigh (m / 128) ++ s = fin → F72_l0 (Ahs.runT ap n) lim N K (j + 1) (.int .u64 (m : Int)) (.str s) H
 | j, m, s, H, hm, hj, k0, hs => by
  show F72_s0 _ _ _ _ (F72_l0 _ _ _ _ j) _ _ _
  unfold F72_s0
  by_cases h : 127 < m
  ·have hd : decide ((127 : Int) < (m : Int)) = true := dT (by omega)
   cases j with
   | zero => simp at hj; omega
   | succ j =>
   have hne : m / 128 ≠ 0 := by omega
   have hs' : vHigh (m / 128 / 128) ++ ([UInt8.ofNat (128 + m / 128 % 128)] ++ s) = fin := by
    rw [← hs, vHigh_pos hne, List.append_assoc, Nat.add_comm]
   have hl : s.length ≤ 10 := by rw [← hs, List.length_append] at hf; omega
   have c1 : IntKind.u64.wrap ((128 : Int) + ((m / 128 % 128 : Nat) : Int)) = ((128 + m / 128 % 128 : Nat) : Int) := by
    rw [show (128 : Int) + ((m / 128 % 128 : Nat) : Int) = ((128 + m / 128 % 128 : Nat) : Int) by omega]; exact wrapN_u64 (by omega)
   have c2 : IntKind.u8.wrap ((128 + m / 128 % 128 : Nat) : Int) = ((128 + m / 128 % 128 : Nat) : Int) := wrapN_u8 (by omega)
   have hb := fun H => byte_one H (m := 128 + m / 128 % 128) (by omega)
   have hq := sadd (a := [UInt8.ofNat (128 + m / 128 % 128)]) (b := s) (by simp; omega)
   (repeat (with_reducible first | ((first | apply bindP_intro | apply bind2_intro); (focus (first | rfl | (simp only [walkS, reduceIte, hd, quo128 m hm, rem128, c1, c2, fill_one _ (cells_int _ _), hb, hq] <;> rfl)))) | apply cond_t | apply cond_f))
   exact one_loop hf hK j (m / 128) _ _ (by omega) (by rw [Nat.pow_succ] at hj; omega) (k0.trans (.push _ _)) hs'
  ·have hd : decide ((127 : Int) < (m : Int)) = false := dF (by omega)
   (repeat (with_reducible first | ((first | apply bindP_intro | apply bind2_intro); (focus (first | rfl | (simp only [walkS, reduceIte, hd] <;> rfl)))) | apply cond_t | apply cond_f))
   unfold F72_j0
   have : m / 128 = 0 := by omega
   rw [this, vHigh_zero] at hs
   subst hs
   exact hK H k0
theorem one_c {n lim m : Nat} (hm : m < 18446744073709551616) (hn : 11 ≤ n) : ∃ v H', Ahs.runT ap (n + 1) lim (.fn 72) [.int .u64 (m : Int)] H = some (v, H') ∧ v = .str (vNum m) ∧ Keeps2 H H' := by
 refine F72_run a72 ?_
 unfold F72
 have c2 : IntKind.u8.wrap ((m % 128 : Nat) : Int) = ((m % 128 : Nat) : Int) := wrapN_u8 (by omega)
 have hb := fun H => byte_one H (m := m % 128) (by omega)
 (repeat (with_reducible first | ((first | apply bindP_intro | apply bind2_intro); (focus (first | rfl | (simp only [walkS, reduceIte, rem128, c2, fill_one _ (cells_int _ _), hb] <;> rfl)))) | apply cond_t | apply cond_f))
 obtain ⟨j, rfl⟩ : ∃ j, n = j + 1 := ⟨n - 1, by omega⟩
 refine one_loop (n := j + 1) (fin := vNum m) (H0 := H) (vNum_len hm) (fun H' k => ⟨rfl, k⟩) j m _ _ hm ?_ (.push _ _) rfl
 refine Nat.lt_of_lt_of_le hm ?_
 have : (128 : Nat) ^ 10 ≤ 128 ^ j := Nat.pow_le_pow_right (by decide) (by omega)
 have e : (128 : Nat) ^ 10 = 1180591620717411303424 := by decide
 omega
def vNums (l : List Nat) : List UInt8 := (l.map vNum).flatten
def encN (l : List Nat) : List (List AVal) := l.map fun (m : Nat) => [.int .u64 (m : Int)]
theorem encN_len (l : List Nat) : (encN l).length = l.length := by unfold encN; simp
theorem vNums_len : ∀ {l : List Nat}, (∀ m ∈ l, m < 18446744073709551616) → (vNums l).length ≤ l.length * 10
 | [], _ => Nat.le_refl _
 | m :: l, h => by
  have h1 := vNum_len (h m (by simp))
  have h2 := vNums_len (l := l) fun x hx => h x (by simp [hx])
  unfold vNums at h2 ⊢
  simp only [List.map_cons, List.flatten_cons, List.length_append, List.length_cons]
  omega
theorem sl_at1 {s : AVal} {G : Heap} {xs : List (List AVal)} (h : Sl G 1 s xs) {i : Nat} {x : AVal} (hx : xs[i]? = some [x]) : ∃ p, aindexAddr none 1 s (.int .i64 (i : Int)) = some p ∧ aload G none p = some x := by
 have hi : i < xs.length := (List.getElem?_eq_some_iff.1 hx).1
 exact ⟨_, h.addr hi, h.load1 hx⟩
theorem refv_loop {n lim N : Nat} {K : AVal → Heap → Prop} {v : AVal} {l : List Nat} {H0 : Heap} (hn : 12 ≤ n) (hl : ∀ m ∈ l, m < 18446744073709551616) (hlen : l.length ≤ 1000000) (hs : Sl H0 1 v (encN l)) (hK : ∀ H', Keeps2 H0 H' → K (.str (vNums l)) H') :
  ∀ (j i : Nat) (s : List UInt8) (H : Heap), l.length < j + i → i ≤ l.length → s ++ vNums (l.drop i) = vNums l → Keeps2 H0 H → F71_l0 (Ahs.runT ap n) lim N K j v (.str s) (.int .i64 (i : Int)) H
 | 0, i, s, H, h, h', _, _ => by exfalso; omega
 | j + 1, i, s, H, hj, hi, hq, k0 => by
  show F71_s0 _ _ _ _ (F71_l0 _ _ _ _ j) _ _ _ _
  unfold F71_s0
  have hal : alen false v = some (.int .i64 (l.length : Int)) := by rw [hs.len, encN_len]
  by_cases hil : i < l.length
  ·have hd : decide ((i : Int) < (l.length : Int)) = true := dT (by omega)
   have hx : (encN l)[i]? = some [.int .u64 ((l[i] : Nat) : Int)] := by unfold encN; rw [List.getElem?_map, List.getElem?_eq_getElem hil]; rfl
   obtain ⟨p1, p2, p3⟩ := sl_at1 hs hx
   obtain ⟨n, rfl⟩ : ∃ n', n = n' + 1 := ⟨n - 1, by omega⟩
   obtain ⟨_, H1, e1, rfl, k1⟩ := one_c (H := H) (n := n) (lim := lim) (hl _ (List.getElem_mem hil)) (by omega)
   have hdrop : vNums (l.drop i) = vNum l[i] ++ vNums (l.drop (i + 1)) := by rw [List.drop_eq_getElem_cons hil]; rfl
   have hb := vNums_len hl
   have hsl : s.length + (vNum l[i]).length ≤ 10000000 := by
    have := congrArg List.length hq
    rw [hdrop] at this
    simp only [List.length_append] at this
    omega
   have ha := sadd (a := s) (b := vNum l[i]) (by omega)
   have hi1 : IntKind.i64.wrap ((i : Int) + 1) = ((i + 1 : Nat) : Int) := i64_succ (by omega)
   (repeat (with_reducible first | ((first | apply bindP_intro | apply bind2_intro); (focus (first | rfl | (simp only [walkS, reduceIte, hal, hd, p2, aload_keep k0 p3, e1, ha, hi1] <;> rfl)))) | apply cond_t | apply cond_f))
   refine refv_loop hn hl hlen hs hK j (i + 1) _ H1 (by omega) (by omega) ?_ (k0.trans k1)
   rw [List.append_assoc, ← hdrop, hq]
  ·have hd : decide ((i : Int) < (l.length : Int)) = false := dF (by omega)
   (repeat (with_reducible first | ((first | apply bindP_intro | apply bind2_intro); (focus (first | rfl | (simp only [walkS, reduceIte, hal, hd] <;> rfl)))) | apply cond_t | apply cond_f))
   unfold F71_j0
   rw [List.drop_eq_nil_of_le (by omega)] at hq
   have : s = vNums l := by rw [← hq]; unfold vNums; simp
   rw [this]
   exact hK H k0
theorem refv_c {n lim : Nat} {v : AVal} {l : List Nat} (hn : 1000012 ≤ n) (hl : ∀ m ∈ l, m < 18446744073709551616) (hlen : l.length ≤ 1000000) (hs : Sl H 1 v (encN l)) : ∃ r H', Ahs.runT ap (n + 1) lim (.fn 71) [v] H = some (r, H') ∧ r = .str (vNums l) ∧ Keeps2 H H' := by
 refine F71_run a71 ?_
 unfold F71
 exact refv_loop (by omega) hl hlen hs (fun H' k => ⟨rfl, k⟩) n 0 [] H (by omega) (Nat.zero_le _) rfl (.refl _)
def rvOut : Option (Nat × Nat) → AVal
 | some (m, k) => .tup [.int .u64 (m : Int), .int .i64 (k : Int), .bool true]
 | none => .tup [.int .u64 0, .int .i64 0, .bool false]
theorem readv_loop {n lim N : Nat} {K : AVal → Heap → Prop} {s : List UInt8} (hs : s.length < 9223372036854775808) : ∀ (q k i m : Nat), k < q → k + i = 10 → m < 18446744073709551616 → K (rvOut (rVgo k m i (s.drop i))) H → F59_l0 (Ahs.runT ap n) lim N K q (.str s) (.int .u64 (m : Int)) (.int .i64 (i : Int)) H
 | 0, k, i, m, hq, _, _, _ => by omega
 | q + 1, k, i, m, hq, hk, hm, h => by
  show F59_s0 _ _ _ _ (F59_l0 _ _ _ _ q) _ _ _ _
  unfold F59_s0
  have hal : alen true (.str s) = some (.int .i64 (s.length : Int)) := rfl
  by_cases hil : i < s.length
  ·have hd : decide ((i : Int) < (s.length : Int)) = true := dT (by omega)
   rw [List.drop_eq_getElem_cons hil] at h
   cases k with
   | zero =>
    have hd2 : decide ((i : Int) < 10) = false := dF (by omega)
    (repeat (with_reducible first | ((first | apply bindP_intro | apply bind2_intro); (focus (first | rfl | (simp only [walkS, reduceIte, hal, hd, hd2] <;> rfl)))) | apply cond_t | apply cond_f))
    unfold F59_j0
    exact h
   | succ k =>
    have hd2 : decide ((i : Int) < 10) = true := dT (by omega)
    have hx : aindexStr (.str s) (.int .i64 (i : Int)) = some (.int .u8 ((s[i].toNat : Nat) : Int)) := by
     have hj : natOf (.int .i64 (i : Int)) = some i := natOf_nat _ i
     unfold aindexStr
     rw [hj]
     simp only [List.getElem?_eq_getElem hil, Option.map_some]
    have hcl : s[i].toNat < 256 := s[i].toNat_lt
    generalize s[i] = c at h hx hcl
    unfold rVgo at h
    by_cases h1 : i = 0 ∧ c.toNat = 128
    ·rw [if_pos (.inl h1)] at h
     have e1 : ((i : Int) == 0) = true := by rw [h1.1]; rfl
     have e2 : (((c.toNat : Nat) : Int) == 128) = true := by rw [h1.2]; rfl
     (repeat (with_reducible first | ((first | apply bindP_intro | apply bind2_intro); (focus (first | rfl | (simp only [walkS, reduceIte, hal, hd, hd2, hx, e1, e2] <;> rfl)))) | apply cond_t | apply cond_f))
     unfold F59_j0
     exact h
    ·by_cases h2 : 144115188075855872 ≤ m
     ·rw [if_pos (.inr h2)] at h
      have hg : decide ((0 : Int) < ((m / 144115188075855872 : Nat) : Int)) = true := dT (by omega)
      by_cases h0 : i = 0
      ·have e1 : ((i : Int) == 0) = true := by rw [h0]; rfl
       have e2 : (((c.toNat : Nat) : Int) == 128) = false := by
        rw [Bool.eq_false_iff]; intro e; exact h1 ⟨h0, by have := eq_of_beq e; omega⟩
       (repeat (with_reducible first | ((first | apply bindP_intro | apply bind2_intro); (focus (first | rfl | (simp only [walkS, reduceIte, hal, hd, hd2, hx, e1, e2, shr57, hg] <;> rfl)))) | apply cond_t | apply cond_f))
       unfold F59_j0
       exact h
      ·have e1 : ((i : Int) == 0) = false := by
        rw [Bool.eq_false_iff]; intro e; have := eq_of_beq e; omega
       (repeat (with_reducible first | ((first | apply bindP_intro | apply bind2_intro); (focus (first | rfl | (simp only [walkS, reduceIte, hal, hd, hd2, hx, e1, shr57, hg] <;> rfl)))) | apply cond_t | apply cond_f))
       unfold F59_j0
       exact h
     ·rw [if_neg (fun e => e.elim h1 h2)] at h
      have hg : decide ((0 : Int) < ((m / 144115188075855872 : Nat) : Int)) = false := dF (by omega)
      have w1 : IntKind.u64.wrap ((c.toNat % 128 : Nat) : Int) = ((c.toNat % 128 : Nat) : Int) := wrapN_u64 (by omega)
      have hi1 : IntKind.i64.wrap ((i : Int) + 1) = ((i + 1 : Nat) : Int) := i64_succ (by omega)
      have go : (F59_l0 (Ahs.runT ap n) lim N K q (.str s) (.int .u64 ((m * 128 + c.toNat % 128 : Nat) : Int)) (.int .i64 ((i + 1 : Nat) : Int)) H) ∨ c.toNat < 128 := by
       by_cases h3 : c.toNat < 128
       ·exact .inr h3
       ·rw [if_neg h3] at h
        exact .inl (readv_loop hs q k (i + 1) _ (by omega) (by omega) (by omega) h)
      by_cases h3 : c.toNat < 128
      ·rw [if_pos h3] at h
       have e3 : decide (c.toNat < 128) = true := dT h3
       by_cases h0 : i = 0
       ·have e1 : ((i : Int) == 0) = true := by rw [h0]; rfl
        have e2 : (((c.toNat : Nat) : Int) == 128) = false := by
         rw [Bool.eq_false_iff]; intro e; exact h1 ⟨h0, by have := eq_of_beq e; omega⟩
        (repeat (with_reducible first | ((first | apply bindP_intro | apply bind2_intro); (focus (first | rfl | (simp only [walkS, reduceIte, hal, hd, hd2, hx, e1, e2, shr57, hg, shl7 (show m < 144115188075855872 by omega), abin_and, abin_or, and127b hcl, w1, or7 (show m < 144115188075855872 by omega) (Nat.mod_lt c.toNat (show 0 < 128 by decide)), hi1, and128b hcl, e3] <;> rfl)))) | apply cond_t | apply cond_f))
        exact h
       ·have e1 : ((i : Int) == 0) = false := by
         rw [Bool.eq_false_iff]; intro e; have := eq_of_beq e; omega
        (repeat (with_reducible first | ((first | apply bindP_intro | apply bind2_intro); (focus (first | rfl | (simp only [walkS, reduceIte, hal, hd, hd2, hx, e1, shr57, hg, shl7 (show m < 144115188075855872 by omega), abin_and, abin_or, and127b hcl, w1, or7 (show m < 144115188075855872 by omega) (Nat.mod_lt c.toNat (show 0 < 128 by decide)), hi1, and128b hcl, e3] <;> rfl)))) | apply cond_t | apply cond_f))
        exact h
      ·have e3 : decide (c.toNat < 128) = false := dF h3
       have go := go.resolve_right h3
       by_cases h0 : i = 0
       ·have e1 : ((i : Int) == 0) = true := by rw [h0]; rfl
        have e2 : (((c.toNat : Nat) : Int) == 128) = false := by
         rw [Bool.eq_false_iff]; intro e; exact h1 ⟨h0, by have := eq_of_beq e; omega⟩
        (repeat (with_reducible first | ((first | apply bindP_intro | apply bind2_intro); (focus (first | rfl | (simp only [walkS, reduceIte, hal, hd, hd2, hx, e1, e2, shr57, hg, shl7 (show m < 144115188075855872 by omega), abin_and, abin_or, and127b hcl, w1, or7 (show m < 144115188075855872 by omega) (Nat.mod_lt c.toNat (show 0 < 128 by decide)), hi1, and128b hcl, e3] <;> rfl)))) | apply cond_t | apply cond_f))
        exact go
       ·have e1 : ((i : Int) == 0) = false := by
         rw [Bool.eq_false_iff]; intro e; have := eq_of_beq e; omega
        (repeat (with_reducible first | ((first | apply bindP_intro | apply bind2_intro); (focus (first | rfl | (simp only [walkS, reduceIte, hal, hd, hd2, hx, e1, shr57, hg, shl7 (show m < 144115188075855872 by omega), abin_and, abin_or, and127b hcl, w1, or7 (show m < 144115188075855872 by omega) (Nat.mod_lt c.toNat (show 0 < 128 by decide)), hi1, and128b hcl, e3] <;> rfl)))) | apply cond_t | apply cond_f))
        exact go
  ·have hd : decide ((i : Int) < (s.length : Int)) = false := dF (by omega)
   rw [List.drop_eq_nil_of_le (by omega)] at h
   have hnil : rVgo k m i [] = none := by cases k <;> rfl
   rw [hnil] at h
   (repeat (with_reducible first | ((first | apply bindP_intro | apply bind2_intro); (focus (first | rfl | (simp only [walkS, reduceIte, hal, hd] <;> rfl)))) | apply cond_t | apply cond_f))
   unfold F59_j0
   exact h
theorem readv_c {n lim : Nat} {s : List UInt8} (hs : s.length < 9223372036854775808) (hn : 11 ≤ n) : Ahs.runT ap (n + 1) lim (.fn 59) [.str s] H = some (rvOut (rV s), H) := by
 refine run_eqn (F59_run a59 ?_)
 unfold F59
 exact readv_loop hs n 10 0 0 (by omega) rfl (by decide) ⟨rfl, rfl⟩
end
def sing (l : List UInt8) : List (List AVal) := l.map fun (c : UInt8) => [.int .u8 (c.toNat : Int)]
theorem sing_len (l : List UInt8) : (sing l).length = l.length := by unfold sing; simp
theorem sing_flat : ∀ l : List UInt8, (sing l).flatten = encB l
 | [] => rfl
 | c :: l => by show AVal.int .u8 (c.toNat : Int) :: (sing l).flatten = _; rw [sing_flat l]; rfl
theorem sing_app (l m : List UInt8) : sing (l ++ m) = sing l ++ sing m := by unfold sing; simp
theorem sing_each (l : List UInt8) : ∀ y ∈ sing l, y.length = 1 ∧ y.all (·.one) = true := by
 intro y hy
 unfold sing at hy
 obtain ⟨c, _, rfl⟩ := List.mem_map.1 hy
 exact ⟨rfl, rfl⟩
theorem own_str {H : Heap} {v : AVal} {out : List UInt8} {bv : Nat} (h : Own H 1 v (sing out) bv) : abytesToStr H v = some (.str out) := by
 rcases h.2 with ⟨rfl, h2⟩ | ⟨o, cs, rfl, h2, h3, h4⟩ | ⟨rfl, h2⟩
 ·have : out = [] := by unfold sing at h2; simpa using h2
  subst this; rfl
 ·have : out = [] := by unfold sing at h2; simpa using h2
  subst this
  unfold abytesToStr
  simp only [h3, Option.bind_eq_bind, Option.bind_some, Ahs.cut, Nat.add_zero, h4, if_true, List.take_zero, bytesOfCells]
 ·rw [sing_flat] at h2
  unfold abytesToStr
  have hc : Ahs.cut (encB out) 0 (sing out).length = some (encB out) := by
   unfold Ahs.cut
   rw [sing_len, if_pos (by rw [encB_len]; omega), List.drop_zero, List.take_of_length_le (by rw [encB_len]; omega)]
  simp only [h2, Option.bind_eq_bind, Option.bind_some, hc, bytes_enc]
def arr (a : Nat) (suf : List UInt8) : List AVal := List.replicate a (.int .u8 0) ++ encB suf
theorem arr_len (a : Nat) (suf : List UInt8) : (arr a suf).length = a + suf.length := by unfold arr; rw [List.length_append, List.length_replicate, encB_len]
theorem arr_set (a : Nat) {m : Nat} (h : m < 256) (suf : List UInt8) : (arr (a + 1) suf).set a (.int .u8 (m : Int)) = arr a (UInt8.ofNat m :: suf) := by
 have hm : ((UInt8.ofNat m).toNat : Int) = (m : Int) := by rw [UInt8.toNat_ofNat', Nat.mod_eq_of_lt h]
 unfold arr
 rw [List.replicate_succ', List.append_assoc, List.set_append_right _ _ (by simp)]
 simp only [List.length_replicate, Nat.sub_self, List.singleton_append, List.set_cons_zero]
 show _ = _ ++ (AVal.int .u8 ((UInt8.ofNat m).toNat : Int) :: encB suf)
 rw [hm]
theorem idx_arr (b : Nat) {a : Nat} (h : a < 10) : aindexAddr (some 10) 1 (.ptr (some (b, 0))) (.int .i64 (a : Int)) = some (.ptr (some (b, a))) := by
 have hj : natOf (.int .i64 (a : Int)) = some a := natOf_nat _ a
 unfold aindexAddr
 simp only [hj]
 rw [if_pos h]
 simp
theorem sl_arr (b : Nat) {a : Nat} (h : a < 10) : asliceArr 10 1 (.ptr (some (b, 0))) (some (.int .i64 (a : Int))) none none = some (.sl (some (b, a)) (10 - a) (.ex (10 - a))) := by
 have hj : natOf (.int .i64 (a : Int)) = some a := natOf_nat _ a
 have hne : ¬ (10 = a) := by omega
 unfold asliceArr
 simp only [natOr, hj, Option.isNone_none, Option.isSome_none, Bool.and_false, Bool.false_eq_true, if_false, Option.bind_eq_bind, Option.bind_some]
 rw [if_pos ⟨by omega, by omega, by omega⟩, if_neg hne]
 simp
section
variable {H : Heap}
theorem v_inner {n lim N : Nat} {K : AVal → Heap → Prop} {rec0 : AVal → AVal → AVal → AVal → Heap → Prop} {t3 t8 t9 t10 : AVal} {G : Heap} {fin : List UInt8} (hl : lim ≤ G.next) (hfin : fin.length ≤ 10)
  (hK : ∀ a, a + fin.length = 10 → F66_j1 (Ahs.runT ap n) lim N K rec0 t3 (.ptr (some (G.next, 0))) (.int .i64 (a : Nat)) t8 t9 t10 (G.push (.cells (arr a fin)))) :
  ∀ (q j m a : Nat) (suf : List UInt8), j < q → m < 128 ^ j → m < 18446744073709551616 → vHigh m ++ suf = fin → a + suf.length = 10 →
   F66_l2 (Ahs.runT ap n) lim N K rec0 q t3 (.int .u64 (m : Int)) (.ptr (some (G.next, 0))) (.int .i64 (a : Nat)) t8 t9 t10 (G.push (.cells (arr a suf)))
 | 0, j, m, a, suf, h, _, _, _, _ => by omega
 | q + 1, j, m, a, suf, hq, hj, hm, hv, ha => by
  show F66_s2 _ _ _ _ _ (F66_l2 _ _ _ _ _ q) _ _ _ _ _ _ _ _
  unfold F66_s2
  by_cases h0 : m = 0
  ·rw [h0, vHigh_zero] at hv
   have hv : suf = fin := hv
   subst hv
   have hd : decide ((0 : Int) < (m : Int)) = false := dF (by omega)
   (repeat (with_reducible first | ((first | apply bindP_intro | apply bind2_intro); (focus (first | rfl | (simp only [walkS, reduceIte, hd] <;> rfl)))) | apply cond_t | apply cond_f))
   exact hK a ha
  ·have hd : decide ((0 : Int) < (m : Int)) = true := dT (by omega)
   have hv2 : vHigh (m / 128) ++ (UInt8.ofNat (m % 128 + 128) :: suf) = fin := by rw [← hv, vHigh_pos h0]; simp
   obtain ⟨a, rfl⟩ : ∃ a', a = a' + 1 := ⟨a - 1, by
    have := congrArg List.length hv2
    simp only [List.length_append, List.length_cons] at this
    omega⟩
   cases j with
   | zero => simp at hj; omega
   | succ j =>
   have hsub : IntKind.i64.wrap (((a + 1 : Nat) : Int) - 1) = (a : Int) := by rw [wrap_i64 (by omega) (by omega)]; omega
   have hc : IntKind.u8.wrap ((m % 128 : Nat) : Int) = ((m % 128 : Nat) : Int) := wrapN_u8 (by omega)
   have ho := or128 (m := m % 128) (by omega)
   have hst : astore lim (G.push (.cells (arr (a + 1) suf))) 1 (.ptr (some (G.next, a))) (.int .u8 ((m % 128 + 128 : Nat) : Int)) = some (G.push (.cells (arr a (UInt8.ofNat (m % 128 + 128) :: suf)))) := by
    rw [astore_new1 hl rfl (by rw [arr_len]; omega) rfl, arr_set a (by omega)]
   (repeat (with_reducible first | ((first | apply bindP_intro | apply bind2_intro); (focus (first | rfl | (simp only [walkS, reduceIte, hd, hsub, abin_and, and127 hm, hc, abin_or, ho, idx_arr G.next (show a < 10 by omega), hst, shr7] <;> rfl)))) | apply cond_t | apply cond_f))
   exact v_inner hl hfin hK q j (m / 128) a _ (by omega) (by rw [Nat.pow_succ] at hj; omega) (by omega) hv2 (by simp only [List.length_cons]; omega)
theorem v_loop {n lim N : Nat} {K : AVal → Heap → Prop} {v : AVal} {l : List Nat} {H0 : Heap} (hN : 11 ≤ N) (hlim : lim ≤ H0.next) (hl : ∀ m ∈ l, m < 18446744073709551616) (hlen : l.length ≤ 1000000) (hs : Sl H0 1 v (encN l)) (hK : ∀ H', Keeps2 H0 H' → K (.str (vNums l)) H') :
  ∀ (j i : Nat) (t3 : AVal) (out : List UInt8) (bv : Nat) (H : Heap), l.length < j + i → i ≤ l.length → out ++ vNums (l.drop i) = vNums l → Own H 1 t3 (sing out) bv → (slBlk t3 = some bv → H0.next ≤ bv) → Keeps2 H0 H → F66_l0 (Ahs.runT ap n) lim N K j t3 v (.int .i64 (l.length : Int)) (.int .i64 (i : Int)) H
 | 0, i, t3, out, bv, H, h, h', _, _, _, _ => by exfalso; omega
 | j + 1, i, t3, out, bv, H, hj, hi, hq, ho, hbv, k0 => by
  show F66_s0 _ _ _ _ (F66_l0 _ _ _ _ j) _ _ _ _ _
  unfold F66_s0
  have k0n := k0.next
  by_cases hil : i < l.length
  ·have hd : decide ((i : Int) < (l.length : Int)) = true := dT (by omega)
   have hx : (encN l)[i]? = some [.int .u64 ((l[i] : Nat) : Int)] := by unfold encN; rw [List.getElem?_map, List.getElem?_eq_getElem hil]; rfl
   obtain ⟨p1, p2, p3⟩ := sl_at1 hs hx
   have hm := hl _ (List.getElem_mem hil)
   have hdrop : vNums (l.drop i) = vNum l[i] ++ vNums (l.drop (i + 1)) := by rw [List.drop_eq_getElem_cons hil]; rfl
   generalize l[i] = m at p3 hm hdrop
   have hb := vNums_len hl
   have hol : out.length + (vNum m).length ≤ 10000000 := by
    have := congrArg List.length hq
    rw [hdrop] at this
    simp only [List.length_append] at this
    omega
   have hc : IntKind.u8.wrap ((m % 128 : Nat) : Int) = ((m % 128 : Nat) : Int) := wrapN_u8 (by omega)
   have hst : astore lim (H.push (.cells z8c4342)) 1 (.ptr (some (H.next, 9))) (.int .u8 ((m % 128 : Nat) : Int)) = some (H.push (.cells (arr 9 [UInt8.ofNat (m % 128)]))) := by
    have hz : z8c4342 = arr (9 + 1) [] := rfl
    rw [hz, astore_new1 (by omega) rfl (by rw [arr_len]; omega) rfl, arr_set 9 (by omega)]
   have hi9 : aindexAddr (some 10) 1 (.ptr (some (H.next, 0))) (.int .i64 9) = some (.ptr (some (H.next, 9))) := idx_arr H.next (a := 9) (by decide)
   (repeat (with_reducible first | ((first | apply bindP_intro | apply bind2_intro); (focus (first | rfl | (simp only [walkS, reduceIte, hd, p2, aload_keep k0 p3, abin_and, and127 hm, hc, hi9, hst, shr7] <;> rfl)))) | apply cond_t | apply cond_f))
   refine v_inner (G := H) (fin := vNum m) (by omega) (vNum_len hm) ?_ N 10 (m / 128) 9 [UInt8.ofNat (m % 128)] (by omega) ?_ (by omega) rfl rfl
   ·intro a ha
    have hne : (vNum m).length ≠ 0 := fun e => vNum_ne m (List.eq_nil_of_length_eq_zero e)
    have ha9 : a < 10 := by omega
    have k1 : Keeps2 H (H.push (.cells (arr a (vNum m)))) := .push _ _
    have ho1 : Own (H.push (.cells (arr a (vNum m)))) 1 t3 (sing out) bv := ho.frame (.of (S := fun _ => False) k1) (fun e => e)
    have hsrc : source (H.push (.cells (arr a (vNum m)))) 1 (.sl (some (H.next, a)) (10 - a) (.ex (10 - a))) = some ((sing (vNum m)).length, (sing (vNum m)).flatten) := by
     show (if 10 - a = 0 then some (0, []) else match (H.push (.cells (arr a (vNum m)))).cells H.next with
      | some cs => (Ahs.cut cs a ((10 - a) * 1)).map fun c => (10 - a, c)
      | none => none) = _
     rw [if_neg (by omega), cells_push_new]
     unfold Ahs.cut
     simp only
     rw [if_pos (by rw [arr_len]; omega), sing_len, sing_flat]
     have e1 : (arr a (vNum m)).drop a = encB (vNum m) := by
      unfold arr
      rw [List.drop_append, List.drop_of_length_le (by simp)]
      simp
     rw [e1, List.take_of_length_le (by rw [encB_len]; omega)]
     rw [show 10 - a = (vNum m).length by omega]
     rfl
    obtain ⟨v', H', bv', q1, q2, q3, q4, q5⟩ := own_append (lim := lim) (bytes := 1) (zero := [.int .u8 0]) ho1 rfl (by decide) hsrc (sing_each _) (by rw [sing_len, sing_len]; unfold room; omega) (by rw [sing_len, sing_len]; unfold room; omega) (fun e => by have := hbv e; omega)
    rw [← sing_app] at q2
    have hi1 : IntKind.i64.wrap ((i : Int) + 1) = ((i + 1 : Nat) : Int) := i64_succ (by omega)
    unfold F66_j1
    (repeat (with_reducible first | ((first | apply bindP_intro | apply bind2_intro); (focus (first | rfl | (simp only [walkS, reduceIte, sl_arr H.next ha9, q1, hi1] <;> rfl)))) | apply cond_t | apply cond_f))
    have k2 : Keeps2 H0 H' := Fram.keeps (k0.trans k1) q3 fun c hc e => by
     have hb := ho.blk c e
     subst hb
     have := hbv e
     omega
    refine v_loop hN hlim hl hlen hs hK j (i + 1) v' _ bv' H' (by omega) (by omega) (by rw [List.append_assoc, ← hdrop, hq]) q2 ?_ k2
    intro e
    rcases q4 with ⟨_, q4 | q4⟩ | q4
    ·exact absurd (by rw [← sing_len, q4]; rfl) hne
    ·exact q4.elim
    ·rw [Heap.next_push] at q4; omega
   ·have e : (128 : Nat) ^ 10 = 1180591620717411303424 := by decide
    omega
  ·have hd : decide ((i : Int) < (l.length : Int)) = false := dF (by omega)
   rw [List.drop_eq_nil_of_le (by omega)] at hq
   have hout : out = vNums l := by rw [← hq]; unfold vNums; simp
   subst hout
   (repeat (with_reducible first | ((first | apply bindP_intro | apply bind2_intro); (focus (first | rfl | (simp only [walkS, reduceIte, hd] <;> rfl)))) | apply cond_t | apply cond_f))
   unfold F66_j0
   (repeat (with_reducible first | ((first | apply bindP_intro | apply bind2_intro); (focus (first | rfl | (simp only [walkS, reduceIte, own_str ho] <;> rfl)))) | apply cond_t | apply cond_f))
   exact hK H k0
theorem v_c {n lim : Nat} {v : AVal} {l : List Nat} (hn : 1000012 ≤ n) (hlim : lim ≤ H.next) (hl : ∀ m ∈ l, m < 18446744073709551616) (hlen : l.length ≤ 1000000) (hs : Sl H 1 v (encN l)) : ∃ r H', Ahs.runT ap (n + 1) lim (.fn 66) [v] H = some (r, H') ∧ r = .str (vNums l) ∧ Keeps2 H H' := by
 refine F66_run a66 ?_
 unfold F66
 have hal : alen false v = some (.int .i64 (l.length : Int)) := by rw [hs.len, encN_len]
 (repeat (with_reducible first | ((first | apply bindP_intro | apply bind2_intro); (focus (first | rfl | (simp only [walkS, reduceIte, hal] <;> rfl)))) | apply cond_t | apply cond_f))
 exact v_loop (by omega) hlim hl hlen hs (fun H' k => ⟨rfl, k⟩) n 0 _ [] H.next H (by omega) (Nat.zero_le _) rfl ⟨fun _ h => by simp [sing] at h, .inl ⟨rfl, rfl⟩⟩ (fun e => by simp [slBlk] at e) (.refl _)
end
def rRgo (s : List UInt8) : Nat → Nat → Nat → Option (Nat × Nat)
 | 0, _, _ => none
 | k + 1, m, i => match s[i]? with
  | none => none
  | some c => if c.toNat < 128 then (if vNum ((128 * m % 18446744073709551616 + c.toNat % 128) % 18446744073709551616) = s.take (i + 1) then some ((128 * m % 18446744073709551616 + c.toNat % 128) % 18446744073709551616, i + 1) else none)
   else rRgo s k ((128 * m % 18446744073709551616 + c.toNat % 128) % 18446744073709551616) (i + 1)
theorem rRgo_some (s : List UInt8) : ∀ (k m i : Nat) {n j : Nat}, rRgo s k m i = some (n, j) → rV s = some (n, j)
 | 0, m, i, n, j, h => by simp [rRgo] at h
 | k + 1, m, i, n, j, h => by
  unfold rRgo at h
  split at h
  ·simp at h
  rename_i c hc
  have hil := (List.getElem?_eq_some_iff.1 hc).1
  split at h
  ·split at h
   ·rename_i hv
    simp only [Option.some.injEq, Prod.mk.injEq] at h
    obtain ⟨rfl, rfl⟩ := h
    have h1 := rV_vNum (n := (128 * m % 18446744073709551616 + c.toNat % 128) % 18446744073709551616) (by omega) (s.drop (i + 1))
    rw [hv, List.take_append_drop, List.length_take, Nat.min_eq_left (by omega)] at h1
    exact h1
   ·simp at h
  ·exact rRgo_some s k _ _ h
theorem rRgo_of (s : List UInt8) : ∀ (k m i : Nat) {n j : Nat}, vNum n = s.take j → rVgo k m i (s.drop i) = some (n, j) → rRgo s k m i = some (n, j)
 | 0, m, i, n, j, hv, h => by simp [rVgo] at h
 | k + 1, m, i, n, j, hv, h => by
  by_cases hil : i < s.length
  ·rw [List.drop_eq_getElem_cons hil] at h
   unfold rVgo at h
   unfold rRgo
   rw [List.getElem?_eq_getElem hil]
   simp only
   generalize s[i] = c at h
   split at h
   ·simp at h
   rename_i hb
   have hm : m < 144115188075855872 := by
    rcases Nat.lt_or_ge m 144115188075855872 with q | q
    ·exact q
    ·exact absurd (Or.inr q) hb
   have e : (128 * m % 18446744073709551616 + c.toNat % 128) % 18446744073709551616 = m * 128 + c.toNat % 128 := by omega
   rw [e]
   split at h
   ·rename_i h1
    simp only [Option.some.injEq, Prod.mk.injEq] at h
    rw [if_pos h1, h.1, h.2, if_pos hv]
   ·rename_i h1
    rw [if_neg h1]
    exact rRgo_of s k _ _ hv h
  ·rw [List.drop_eq_nil_of_le (by omega)] at h
   simp [rVgo] at h
theorem rR_eq (s : List UInt8) : rRgo s 10 0 0 = rV s := by
 cases h : rV s with
 | none =>
  cases h' : rRgo s 10 0 0 with
  | none => rfl
  | some x => obtain ⟨n, j⟩ := x; rw [rRgo_some s _ _ _ h'] at h; simp at h
 | some x =>
  obtain ⟨n, j⟩ := x
  obtain ⟨t, h1, h2, h3⟩ := rV_some h
  exact rRgo_of s 10 0 0 (by rw [h1, h2, List.take_left]) h
theorem wrapM_u64 (x : Nat) : IntKind.u64.wrap (x : Int) = ((x % 18446744073709551616 : Nat) : Int) := by
 unfold IntKind.wrap IntKind.bits IntKind.signed
 simp
section
variable {H : Heap}
theorem refr_loop {n lim N : Nat} {K : AVal → Heap → Prop} {s : List UInt8} (hn : 12 ≤ n) (hs : s.length < 9223372036854775808) :
  ∀ (q k m i : Nat) (H : Heap), k < q → k + i = 10 → m < 18446744073709551616 → (∀ H', Keeps2 H H' → K (rvOut (rRgo s k m i)) H') → F60_l0 (Ahs.runT ap n) lim N K q (.str s) (.int .u64 (m : Int)) (.int .i64 (i : Int)) H
 | 0, k, m, i, H, h, _, _, _ => by omega
 | q + 1, k, m, i, H, hq, hk, hm, h => by
  show F60_s0 _ _ _ _ (F60_l0 _ _ _ _ q) _ _ _ _
  unfold F60_s0
  have hal : alen true (.str s) = some (.int .i64 (s.length : Int)) := rfl
  by_cases hil : i < s.length
  ·have hd : decide ((i : Int) < (s.length : Int)) = true := dT (by omega)
   cases k with
   | zero =>
    have hd2 : decide ((i : Int) < 10) = false := dF (by omega)
    (repeat (with_reducible first | ((first | apply bindP_intro | apply bind2_intro); (focus (first | rfl | (simp only [walkS, reduceIte, hal, hd, hd2] <;> rfl)))) | apply cond_t | apply cond_f))
    unfold F60_j0
    exact h H (.refl _)
   | succ k =>
    have hd2 : decide ((i : Int) < 10) = true := dT (by omega)
    have hx : aindexStr (.str s) (.int .i64 (i : Int)) = some (.int .u8 ((s[i].toNat : Nat) : Int)) := by
     have hj : natOf (.int .i64 (i : Int)) = some i := natOf_nat _ i
     unfold aindexStr
     rw [hj]
     simp only [List.getElem?_eq_getElem hil, Option.map_some]
    have hcl : s[i].toNat < 256 := s[i].toNat_lt
    have hi1 : IntKind.i64.wrap ((i : Int) + 1) = ((i + 1 : Nat) : Int) := i64_succ (by omega)
    unfold rRgo at h
    rw [List.getElem?_eq_getElem hil] at h
    simp only at h
    generalize s[i] = c at h hx hcl
    have w0 : IntKind.u64.wrap ((128 : Int) * (m : Int)) = ((128 * m % 18446744073709551616 : Nat) : Int) := by
     rw [show (128 : Int) * (m : Int) = ((128 * m : Nat) : Int) by omega]; exact wrapM_u64 _
    have w1 : abin .rem (.int .u8 ((c.toNat : Nat) : Int)) (.int .u8 128) = some (.int .u8 ((c.toNat % 128 : Nat) : Int)) := by
     refine (abin_rem (k := .u8) (a := ((c.toNat : Nat) : Int)) (b := 128) (by decide)).trans ?_
     have : ((c.toNat : Nat) : Int).tmod 128 = ((c.toNat % 128 : Nat) : Int) := by rw [Int.tmod_eq_emod_of_nonneg (by omega)]; omega
     rw [this]
    have w2 : IntKind.u64.wrap ((c.toNat % 128 : Nat) : Int) = ((c.toNat % 128 : Nat) : Int) := wrapN_u64 (by omega)
    have w3 : IntKind.u64.wrap (((128 * m % 18446744073709551616 : Nat) : Int) + ((c.toNat % 128 : Nat) : Int)) = (((128 * m % 18446744073709551616 + c.toNat % 128) % 18446744073709551616 : Nat) : Int) := by
     rw [show ((128 * m % 18446744073709551616 : Nat) : Int) + ((c.toNat % 128 : Nat) : Int) = ((128 * m % 18446744073709551616 + c.toNat % 128 : Nat) : Int) by omega]; exact wrapM_u64 _
    generalize hm' : (128 * m % 18446744073709551616 + c.toNat % 128) % 18446744073709551616 = m' at h w3
    have hlt : m' < 18446744073709551616 := by omega
    by_cases h3 : c.toNat < 128
    ·have e3 : decide (((c.toNat : Nat) : Int) < 128) = true := dT (by omega)
     rw [if_pos h3] at h
     obtain ⟨n, rfl⟩ : ∃ n', n = n' + 1 := ⟨n - 1, by omega⟩
     obtain ⟨_, H1, g1, rfl, k1⟩ := one_c (H := H) (n := n) (lim := lim) hlt (by omega)
     have hsl : asliceStr (.str s) none (some (.int .i64 ((i + 1 : Nat) : Int))) = some (.str (s.take (i + 1))) := by
      simp only [asliceStr, natOr, natOf_nat, Option.bind_eq_bind, Option.bind_some]
      rw [if_pos ⟨by omega, Nat.zero_le _⟩]
      simp
     by_cases h4 : vNum m' = s.take (i + 1)
     ·rw [if_pos h4] at h
      have e4 : (!(vNum m' == s.take (i + 1))) = false := by rw [h4]; simp
      (repeat (with_reducible first | ((first | apply bindP_intro | apply bind2_intro); (focus (first | rfl | (simp only [walkS, reduceIte, hal, hd, hd2, hx, w0, w1, w2, w3, e3, g1, hi1, hsl, e4] <;> rfl)))) | apply cond_t | apply cond_f))
      exact h H1 k1
     ·rw [if_neg h4] at h
      have e4 : (!(vNum m' == s.take (i + 1))) = true := by simpa using h4
      (repeat (with_reducible first | ((first | apply bindP_intro | apply bind2_intro); (focus (first | rfl | (simp only [walkS, reduceIte, hal, hd, hd2, hx, w0, w1, w2, w3, e3, g1, hi1, hsl, e4] <;> rfl)))) | apply cond_t | apply cond_f))
      exact h H1 k1
    ·have e3 : decide (((c.toNat : Nat) : Int) < 128) = false := dF (by omega)
     rw [if_neg h3] at h
     (repeat (with_reducible first | ((first | apply bindP_intro | apply bind2_intro); (focus (first | rfl | (simp only [walkS, reduceIte, hal, hd, hd2, hx, w0, w1, w2, w3, e3, hi1] <;> rfl)))) | apply cond_t | apply cond_f))
     exact refr_loop hn hs q k m' (i + 1) H (by omega) (by omega) hlt h
  ·have hd : decide ((i : Int) < (s.length : Int)) = false := dF (by omega)
   have hnil : rRgo s k m i = none := by
    cases k with
    | zero => rfl
    | succ k => unfold rRgo; rw [List.getElem?_eq_none (by omega)]
   rw [hnil] at h
   (repeat (with_reducible first | ((first | apply bindP_intro | apply bind2_intro); (focus (first | rfl | (simp only [walkS, reduceIte, hal, hd] <;> rfl)))) | apply cond_t | apply cond_f))
   unfold F60_j0
   exact h H (.refl _)
theorem refr_c {n lim : Nat} {s : List UInt8} (hs : s.length < 9223372036854775808) (hn : 12 ≤ n) : ∃ v H', Ahs.runT ap (n + 1) lim (.fn 60) [.str s] H = some (v, H') ∧ v = rvOut (rV s) ∧ Keeps2 H H' := by
 refine F60_run a60 ?_
 unfold F60
 exact refr_loop hn hs n 10 0 0 H (by omega) rfl (by decide) (fun H' k => ⟨by rw [rR_eq], k⟩)
end
end Go.Proofs.Ytjflpnahjooffaa.cat
