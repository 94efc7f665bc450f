/- CatBack: two catalogues with one row of bytes. -/
import Derived.Test.YtjflpnahjooffaaCtM
import Derived.Test.YtjflpnahjooffaaChsX3
set_option maxRecDepth 100000
set_option linter.unusedVariables false
set_option linter.unusedSimpArgs false
namespace Go.Proofs.Ytjflpnahjooffaa.cat
open Go.Ahs

structure ActsAt (H : Heap) (v : AVal) (l : List PAct) : Prop where
  len : l.length ≤ maxLen
  sl : Sl H 15 v (l.map encA)
  wf : ∀ a ∈ l, WfA a

def actTy : Ty := .int .u8 (.int .u8 (.int .u8 (.int .u8 (.int .u8 (.int .u8 (.int .u8 (.int .u8 (.int .u8 (.int .u8 (.int .u8 (.int .i64 (.int .i64 (.int .i64 (.int .i64 .nil))))))))))))))

theorem ActsAt.keep {H H' : Heap} (hk : Keeps2 H H') {v : AVal} {l : List PAct} (h : ActsAt H v l) : ActsAt H' v l := ⟨h.len, h.sl.keep hk, h.wf⟩
theorem nat_u8 {n : Int} (h : 0 ≤ n ∧ n ≤ 255) : ((n.toNat : Nat) : Int) = n ∧ n.toNat < 256 := by omega
theorem byte_u8 {n : Int} (h : 0 ≤ n ∧ n ≤ 255) : (((UInt8.ofNat n.toNat).toNat : Nat) : Int) = n := by
  rw [toNat_of (by omega)]; omega

theorem wf_act {H : Heap} {x : List AVal} (h : Wf H actTy x) : ∃ a : PAct, x = encA a ∧ WfA a := by
  obtain ⟨d, _, rfl, hd, s, _, rfl, hs, r, _, rfl, hr, t0, _, rfl, h0, t1, _, rfl, h1, t2, _, rfl, h2, t3, _, rfl, h3, t4, _, rfl, h4, t5, _, rfl, h5, t6, _, rfl, h6, t7, _, rfl, h7, k, _, rfl, _, b, _, rfl, _, q, _, rfl, _, u, _, rfl, _, rfl⟩ := h
  have hd := wfU8 hd
  have hs := wfU8 hs
  have hr := wfU8 hr
  refine ⟨⟨d.toNat, s.toNat, r.toNat, ⟨[UInt8.ofNat t0.toNat, UInt8.ofNat t1.toNat, UInt8.ofNat t2.toNat, UInt8.ofNat t3.toNat, UInt8.ofNat t4.toNat, UInt8.ofNat t5.toNat, UInt8.ofNat t6.toNat, UInt8.ofNat t7.toNat], rfl⟩, ⟨k, b, q, u⟩⟩, ?_, ⟨(nat_u8 hd).2, (nat_u8 hs).2, (nat_u8 hr).2⟩⟩
  unfold encA encB encQ
  simp only [List.map_cons, List.map_nil, List.cons_append, List.nil_append, (nat_u8 hd).1, (nat_u8 hs).1, (nat_u8 hr).1, byte_u8 (wfU8 h0), byte_u8 (wfU8 h1), byte_u8 (wfU8 h2), byte_u8 (wfU8 h3), byte_u8 (wfU8 h4), byte_u8 (wfU8 h5), byte_u8 (wfU8 h6), byte_u8 (wfU8 h7)]

theorem wf_acts {H : Heap} {v : AVal} (h : Wf H (.slice actTy .nil) [v]) : ∃ l : List PAct, ActsAt H v l := by
  obtain ⟨v', _, e, _, ⟨xs, h1, h2, h3⟩, _⟩ := h
  simp only [List.cons.injEq] at e
  obtain ⟨rfl, _⟩ := e
  obtain ⟨l, hl, hq⟩ := wf_list (α := PAct) (Q := fun x a => x = encA a ∧ WfA a) (fun x hx => wf_act hx) h3
  have e := wf_eqs (enc := encA) hl fun i x a e1 e2 => (hq i x a e1 e2).1
  refine ⟨l, by rw [hl]; exact h2, by rw [← e]; exact h1, fun a ha => ?_⟩
  obtain ⟨i, hi, rfl⟩ := List.getElem_of_mem ha
  exact (hq i xs[i] l[i] (List.getElem?_eq_getElem (by omega)) (List.getElem?_eq_getElem hi)).2

/-- What is there behind acts. -/
def playC : PCat → List PAct → PCat
  | C, [] => C
  | C, a :: l => playC (actC C a).2 l
theorem playC_ok : ∀ (l : List PAct) {C : PCat}, OkC C → OkC (playC C l)
  | [], C, h => h
  | a :: l, C, h => playC_ok l (actC_ok h a).1

theorem CatAt.ltb {H : Heap} {b m : Nat} {C : PCat} (h : CatAt H b m C) : b < H.next ∧ m < H.next := ⟨Heap.cells_lt h.cells, h.map.lt⟩

/-- One act of a row. -/
theorem act_at {H : Heap} {v : AVal} {l : List PAct} {i : Nat} (h : ActsAt H v l) (hi : i < l.length) : ∃ a, l[i]? = some a ∧ WfA a ∧ aindexAddr none 15 v (.int .i64 (i : Int)) = some (Ahs.slot v (i * 15)) ∧ aload H (some 15) (Ahs.slot v (i * 15)) = some (.agg (encA a)) ∧ l.drop i = a :: l.drop (i + 1) := by
  have hx : l[i]? = some l[i] := List.getElem?_eq_getElem hi
  refine ⟨l[i], hx, h.wf _ (List.getElem_mem hi), h.sl.addr (by rw [List.length_map]; exact hi), h.sl.load (by rw [List.getElem?_map, hx]; rfl), List.drop_eq_getElem_cons hi⟩

def Dj (b m b2 m2 : Nat) : Prop := b ≠ b2 ∧ b ≠ m2 ∧ m ≠ b2 ∧ m ≠ m2

section
variable {n lim N : Nat} {K : AVal → Heap → Prop} {H0 : Heap}

theorem back_loop2 {v : AVal} {l : List PAct} (hA : ActsAt H0 v l) (hlim : lim ≤ H0.next) (hn : 1000017 ≤ n) (hl : l.length ≤ 120) (hK : ∀ H', Keeps2 H0 H' → K (.bool true) H') :
    ∀ (q i b m b2 m2 : Nat) (C : PCat) (H : Heap), l.length < q + i → i ≤ l.length → CatAt H b m C → CatAt H b2 m2 C → OkC C → Dj b m b2 m2 → Keeps2 H0 H → H0.next ≤ b → H0.next ≤ m → H0.next ≤ b2 → H0.next ≤ m2 →
      F4_l2 (Ahs.runT ap n) lim N K q v (.ptr (some (b, 0))) (.ptr (some (b2, 0))) (.int .i64 (i : Int)) H
  | 0, i, b, m, b2, m2, C, H, h1, h2, _, _, _, _, _, _, _, _, _ => by exfalso; omega
  | q + 1, i, b, m, b2, m2, C, H, hq, hi, hc, hd, hok, hj, k0, g1, g2, g3, g4 => by
    show F4_s2 _ _ _ _ (F4_l2 _ _ _ _ q) _ _ _ _ _
    unfold F4_s2
    have hal : alen false v = some (.int .i64 (l.length : Int)) := by have := hA.sl.len; rw [List.length_map] at this; exact this
    have hkn := k0.next
    obtain ⟨n', hn'⟩ : ∃ n', n = n' + 1 := ⟨n - 1, by omega⟩
    by_cases hil : i < l.length
    · have hdd : decide ((i : Int) < (l.length : Int)) = true := dT (by omega)
      obtain ⟨a, ha, hwa, had, hld, _⟩ := act_at (hA.keep k0) hil
      obtain ⟨_, H1, r1, b', m', rfl, c1, f1, e1⟩ := does_c (n := n') (lim := lim) hc hok hwa (by omega) (by omega) (by omega) (by omega)
      rw [← hn'] at r1
      have k1 : Keeps2 H0 H1 := Fram.keeps k0 f1 fun c hc e => by rcases e with rfl | rfl <;> omega
      have k1n := k1.next
      have f1n := f1.next
      have ld2 := hd.ltb
      have lc2 := c1.ltb
      have d1 : CatAt H1 b2 m2 C := hd.frame f1 (fun e => by rcases e with e | e <;> (obtain ⟨q1, q2, q3, q4⟩ := hj; omega)) (fun e => by rcases e with e | e <;> (obtain ⟨q1, q2, q3, q4⟩ := hj; omega))
      have hj1 : Dj b' m' b2 m2 := by
        rcases e1 with ⟨rfl, rfl⟩ | ⟨e1, e2⟩
        · exact hj
        · exact ⟨by omega, by omega, by omega, by omega⟩
      have g1' : H0.next ≤ b' := by rcases e1 with ⟨rfl, rfl⟩ | ⟨e1, e2⟩ <;> omega
      have g2' : H0.next ≤ m' := by rcases e1 with ⟨rfl, rfl⟩ | ⟨e1, e2⟩ <;> omega
      obtain ⟨a2, ha2, _, _, hld2, _⟩ := act_at (hA.keep k1) hil
      obtain rfl : a = a2 := by rw [ha] at ha2; exact Option.some.inj ha2
      obtain ⟨_, H2, r2, b2', m2', rfl, d2, f2, e2⟩ := does_c (n := n') (lim := lim) d1 hok hwa (by omega) (by omega) (by omega) (by omega)
      rw [← hn'] at r2
      have k2 : Keeps2 H0 H2 := Fram.keeps k1 f2 fun c hc e => by rcases e with rfl | rfl <;> omega
      have k2n := k2.next
      have c2 : CatAt H2 b' m' (actC C a).2 := c1.frame f2 (fun e => by rcases e with e | e <;> (obtain ⟨q1, q2, q3, q4⟩ := hj1; omega)) (fun e => by rcases e with e | e <;> (obtain ⟨q1, q2, q3, q4⟩ := hj1; omega))
      have hj2 : Dj b' m' b2' m2' := by
        rcases e2 with ⟨rfl, rfl⟩ | ⟨e1, e2⟩
        · exact hj1
        · exact ⟨by omega, by omega, by omega, by omega⟩
      have g3' : H0.next ≤ b2' := by rcases e2 with ⟨rfl, rfl⟩ | ⟨e1, e2⟩ <;> omega
      have g4' : H0.next ≤ m2' := by rcases e2 with ⟨rfl, rfl⟩ | ⟨e1, e2⟩ <;> omega
      have hok2 := (actC_ok hok a).1
      obtain ⟨_, H3, r3, rfl, k3⟩ := write_c (n := n') (lim := lim) c2 hok2 (by omega) (by omega)
      have k3n := k3.next
      obtain ⟨_, H4, r4, rfl, k4⟩ := write_c (n := n') (lim := lim) (d2.keep k3) hok2 (by omega) (by omega)
      rw [← hn'] at r3 r4
      have hcode : ((actC C a).1 != (actC C a).1) = false := by simp
      have hs : (!(writeC (actC C a).2 == writeC (actC C a).2)) = false := by simp
      have hi1 : IntKind.i64.wrap ((i : Int) + 1) = ((i + 1 : Nat) : Int) := i64_succ (by omega)
      (repeat (first | (with_reducible apply bindP_intro; (focus (first | with_reducible rfl | (simp only [walkR, get0, getS, Nat.zero_add, Nat.add_zero, Bool.not_true, Bool.not_false, decide_true, decide_false, reduceIte, and_self, Bool.false_eq_true, hal, hdd, had, hld, r1, hld2, r2, hcode, r3, r4, hs, hi1] <;> with_reducible rfl)))) | (with_reducible apply bind2_intro; (focus (first | with_reducible rfl | (simp only [walkR, get0, getS, Nat.zero_add, Nat.add_zero, Bool.not_true, Bool.not_false, decide_true, decide_false, reduceIte, and_self, Bool.false_eq_true, hal, hdd, had, hld, r1, hld2, r2, hcode, r3, r4, hs, hi1] <;> with_reducible rfl)))) | with_reducible apply cond_t | with_reducible apply cond_f))
      exact back_loop2 hA hlim hn hl hK q (i + 1) b' m' b2' m2' _ H4 (by omega) (by omega) (c2.keep (k3.trans k4)) (d2.keep (k3.trans k4)) hok2 hj2 ((k2.trans k3).trans k4) g1' g2' g3' g4'
    · have hdd : decide ((i : Int) < (l.length : Int)) = false := dF (by omega)
      (repeat (first | (with_reducible apply bindP_intro; (focus (first | with_reducible rfl | (simp only [walkR, get0, getS, Nat.zero_add, Nat.add_zero, Bool.not_true, Bool.not_false, decide_true, decide_false, reduceIte, and_self, Bool.false_eq_true, hal, hdd] <;> with_reducible rfl)))) | (with_reducible apply bind2_intro; (focus (first | with_reducible rfl | (simp only [walkR, get0, getS, Nat.zero_add, Nat.add_zero, Bool.not_true, Bool.not_false, decide_true, decide_false, reduceIte, and_self, Bool.false_eq_true, hal, hdd] <;> with_reducible rfl)))) | with_reducible apply cond_t | with_reducible apply cond_f))
      unfold F4_j0
      have hb := b19 (n := n') (lim := lim) (H := H)
      rw [← hn'] at hb
      (repeat (first | (with_reducible apply bindP_intro; (focus (first | with_reducible rfl | (simp only [walkR, get0, getS, Nat.zero_add, Nat.add_zero, Bool.not_true, Bool.not_false, decide_true, decide_false, reduceIte, and_self, Bool.false_eq_true, hb] <;> with_reducible rfl)))) | (with_reducible apply bind2_intro; (focus (first | with_reducible rfl | (simp only [walkR, get0, getS, Nat.zero_add, Nat.add_zero, Bool.not_true, Bool.not_false, decide_true, decide_false, reduceIte, and_self, Bool.false_eq_true, hb] <;> with_reducible rfl)))) | with_reducible apply cond_t | with_reducible apply cond_f))
      exact hK H k0

theorem back_mid {v : AVal} {l : List PAct} {C : PCat} {b m cut : Nat} {behind : List UInt8} {H : Heap} (hA : ActsAt H0 v l) (hlim : lim ≤ H0.next) (hn : 1000017 ≤ n) (hN : 200 ≤ N) (hl : l.length ≤ 120) (hb : behind.length ≤ 100) (hcut : cut < 65536) (hK : ∀ H', Keeps2 H0 H' → K (.bool true) H')
    (hc : CatAt H b m C) (hok : OkC C) (k0 : Keeps2 H0 H) (g1 : H0.next ≤ b) (g2 : H0.next ≤ m) : F4_j1 (Ahs.runT ap n) lim N K v (.int .u16 (cut : Int)) (.str behind) (.ptr (some (b, 0))) H := by
  unfold F4_j1
  have hkn := k0.next
  obtain ⟨n', hn'⟩ : ∃ n', n = n' + 1 := ⟨n - 1, by omega⟩
  obtain ⟨_, H1, r1, rfl, k1⟩ := write_c (n := n') (lim := lim) hc hok (by omega) (by omega)
  have k1n := k1.next
  have hwl := write_len hok
  obtain ⟨v2, H2, r2, hv2, k2⟩ := read_c (n := n') (lim := lim) (H := H1) (s := writeC C) (by omega) (by omega) (by omega)
  rw [read_write hok] at hv2
  obtain ⟨b2, m2, rfl, d2, _, e1, e2⟩ := hv2
  have k2n := k2.next
  rw [← hn'] at r1 r2
  have hal : alen true (.str (writeC C)) = some (.int .i64 ((writeC C).length : Int)) := rfl
  have h5 : decide (((writeC C).length : Int) < 5) = false := dF (by omega)
  have hpn : eqvO false .ptr (.ptr (some (b2, 0))) (.ptr none) = some (.bool false) := rfl
  have hcv : IntKind.i64.wrap (cut : Int) = (cut : Int) := wrap_i64 (by omega) (by omega)
  obtain ⟨c, hcdef⟩ : ∃ c, c = cut % (writeC C).length := ⟨_, rfl⟩
  have hclt : c < (writeC C).length := by rw [hcdef]; exact Nat.mod_lt _ (by omega)
  have hrem : abin .rem (.int .i64 (cut : Int)) (.int .i64 ((writeC C).length : Int)) = some (.int .i64 (c : Int)) := by
    refine (abin_rem (k := .i64) (a := (cut : Int)) (b := ((writeC C).length : Int)) (by omega)).trans ?_
    have : (cut : Int).tmod ((writeC C).length : Int) = (c : Int) := by
      rw [Int.tmod_eq_emod_of_nonneg (by omega), hcdef]; exact (Int.natCast_emod _ _).symm
    rw [this]
  have hsl : asliceStr (.str (writeC C)) none (some (.int .i64 (c : Int))) = some (.str ((writeC C).take c)) := by
    simp only [asliceStr, natOr, natOf_nat, Option.bind_eq_bind, Option.bind_some]
    rw [if_pos ⟨by omega, Nat.zero_le _⟩]
    simp
  obtain ⟨v3, H3, r3, hv3, k3⟩ := read_c (n := n') (lim := lim) (H := H2) (s := (writeC C).take c) (by omega) (by omega) (by rw [List.length_take]; omega)
  rw [read_cut hok hclt] at hv3
  obtain rfl : v3 = .tup [.ptr none, .bool false] := hv3
  have k3n := k3.next
  have hadd : abin .add (.str (writeC C)) (.str behind) = some (.str (writeC C ++ behind)) := sadd (by omega)
  obtain ⟨v4, H4, r4, hv4, k4⟩ := read_c (n := n') (lim := lim) (H := H3) (s := writeC C ++ behind) (by omega) (by omega) (by rw [List.length_append]; omega)
  rw [← hn'] at r3 r4
  have hlb := hc.ltb
  have ld2 := d2.ltb
  have c4 := hc.keep (k1.trans (k2.trans (k3.trans k4)))
  have d4 := d2.keep (k3.trans k4)
  have k04 : Keeps2 H0 H4 := k0.trans (k1.trans (k2.trans (k3.trans k4)))
  have hj : Dj b m b2 m2 := ⟨by omega, by omega, by omega, by omega⟩
  have fin := back_loop2 (N := N) hA hlim hn hl hK N 0 b m b2 m2 C H4 (by omega) (Nat.zero_le _) c4 d4 hok hj k04 g1 g2 (by omega) (by omega)
  by_cases hbe : behind = []
  · subst hbe
    rw [List.append_nil, read_write hok] at hv4
    obtain ⟨b3, m3, rfl, _⟩ := hv4
    have q1 : (([] : List UInt8) == []) = true := rfl
    have q2 : eqvO true .bool (.bool true) (.bool true) = some (.bool false) := rfl
    (repeat (first | (with_reducible apply bindP_intro; (focus (first | with_reducible rfl | (simp only [walkR, get0, getS, Nat.zero_add, Nat.add_zero, Bool.not_true, Bool.not_false, decide_true, decide_false, reduceIte, and_self, Bool.false_eq_true, r1, r2, hal, h5, hpn, hcv, hrem, hsl, r3, hadd, r4, q1, q2] <;> with_reducible rfl)))) | (with_reducible apply bind2_intro; (focus (first | with_reducible rfl | (simp only [walkR, get0, getS, Nat.zero_add, Nat.add_zero, Bool.not_true, Bool.not_false, decide_true, decide_false, reduceIte, and_self, Bool.false_eq_true, r1, r2, hal, h5, hpn, hcv, hrem, hsl, r3, hadd, r4, q1, q2] <;> with_reducible rfl)))) | with_reducible apply cond_t | with_reducible apply cond_f))
    exact fin
  · rw [read_more hok hbe] at hv4
    obtain rfl : v4 = .tup [.ptr none, .bool false] := hv4
    have q1 : (behind == []) = false := by simpa using hbe
    have q2 : eqvO true .bool (.bool false) (.bool false) = some (.bool false) := rfl
    (repeat (first | (with_reducible apply bindP_intro; (focus (first | with_reducible rfl | (simp only [walkR, get0, getS, Nat.zero_add, Nat.add_zero, Bool.not_true, Bool.not_false, decide_true, decide_false, reduceIte, and_self, Bool.false_eq_true, r1, r2, hal, h5, hpn, hcv, hrem, hsl, r3, hadd, r4, q1, q2] <;> with_reducible rfl)))) | (with_reducible apply bind2_intro; (focus (first | with_reducible rfl | (simp only [walkR, get0, getS, Nat.zero_add, Nat.add_zero, Bool.not_true, Bool.not_false, decide_true, decide_false, reduceIte, and_self, Bool.false_eq_true, r1, r2, hal, h5, hpn, hcv, hrem, hsl, r3, hadd, r4, q1, q2] <;> with_reducible rfl)))) | with_reducible apply cond_t | with_reducible apply cond_f))
    exact fin

theorem back_loop {v v2 : AVal} {l l2 : List PAct} {cut : Nat} {behind : List UInt8} (hA : ActsAt H0 v l) (hA2 : ActsAt H0 v2 l2) (hlim : lim ≤ H0.next) (hn : 1000017 ≤ n) (hN : 200 ≤ N) (hl : l.length ≤ 120) (hl2 : l2.length ≤ 120) (hb : behind.length ≤ 100) (hcut : cut < 65536) (hK : ∀ H', Keeps2 H0 H' → K (.bool true) H') :
    ∀ (q i b m : Nat) (C : PCat) (H : Heap), l.length < q + i → i ≤ l.length → CatAt H b m C → OkC C → Keeps2 H0 H → H0.next ≤ b → H0.next ≤ m →
      F4_l0 (Ahs.runT ap n) lim N K q v v2 (.int .u16 (cut : Int)) (.str behind) (.ptr (some (b, 0))) (.int .i64 (i : Int)) H
  | 0, i, b, m, C, H, h1, h2, _, _, _, _, _ => by exfalso; omega
  | q + 1, i, b, m, C, H, hq, hi, hc, hok, k0, g1, g2 => by
    show F4_s0 _ _ _ _ (F4_l0 _ _ _ _ q) _ _ _ _ _ _ _
    unfold F4_s0
    have hal : alen false v = some (.int .i64 (l.length : Int)) := by have := hA.sl.len; rw [List.length_map] at this; exact this
    have hkn := k0.next
    obtain ⟨n', hn'⟩ : ∃ n', n = n' + 1 := ⟨n - 1, by omega⟩
    by_cases hil : i < l.length
    · have hdd : decide ((i : Int) < (l.length : Int)) = true := dT (by omega)
      obtain ⟨a, ha, hwa, had, hld, _⟩ := act_at (hA.keep k0) hil
      obtain ⟨_, H1, r1, b', m', rfl, c1, f1, e1⟩ := does_c (n := n') (lim := lim) hc hok hwa (by omega) (by omega) (by omega) (by omega)
      rw [← hn'] at r1
      have k1 : Keeps2 H0 H1 := Fram.keeps k0 f1 fun c hc e => by rcases e with rfl | rfl <;> omega
      have g1' : H0.next ≤ b' := by rcases e1 with ⟨rfl, rfl⟩ | ⟨e1, e2⟩ <;> omega
      have g2' : H0.next ≤ m' := by rcases e1 with ⟨rfl, rfl⟩ | ⟨e1, e2⟩ <;> omega
      have hi1 : IntKind.i64.wrap ((i : Int) + 1) = ((i + 1 : Nat) : Int) := i64_succ (by omega)
      (repeat (first | (with_reducible apply bindP_intro; (focus (first | with_reducible rfl | (simp only [walkR, get0, getS, Nat.zero_add, Nat.add_zero, Bool.not_true, Bool.not_false, decide_true, decide_false, reduceIte, and_self, Bool.false_eq_true, hal, hdd, had, hld, r1, hi1] <;> with_reducible rfl)))) | (with_reducible apply bind2_intro; (focus (first | with_reducible rfl | (simp only [walkR, get0, getS, Nat.zero_add, Nat.add_zero, Bool.not_true, Bool.not_false, decide_true, decide_false, reduceIte, and_self, Bool.false_eq_true, hal, hdd, had, hld, r1, hi1] <;> with_reducible rfl)))) | with_reducible apply cond_t | with_reducible apply cond_f))
      exact back_loop hA hA2 hlim hn hN hl hl2 hb hcut hK q (i + 1) b' m' _ H1 (by omega) (by omega) c1 (actC_ok hok a).1 k1 g1' g2'
    · have hdd : decide ((i : Int) < (l.length : Int)) = false := dF (by omega)
      (repeat (first | (with_reducible apply bindP_intro; (focus (first | with_reducible rfl | (simp only [walkR, get0, getS, Nat.zero_add, Nat.add_zero, Bool.not_true, Bool.not_false, decide_true, decide_false, reduceIte, and_self, Bool.false_eq_true, hal, hdd] <;> with_reducible rfl)))) | (with_reducible apply bind2_intro; (focus (first | with_reducible rfl | (simp only [walkR, get0, getS, Nat.zero_add, Nat.add_zero, Bool.not_true, Bool.not_false, decide_true, decide_false, reduceIte, and_self, Bool.false_eq_true, hal, hdd] <;> with_reducible rfl)))) | with_reducible apply cond_t | with_reducible apply cond_f))
      exact back_mid hA2 hlim hn hN hl2 hb hcut hK hc hok k0 g1 g2
end

theorem back_c {n : Nat} {H : Heap} {v v2 : AVal} {l l2 : List PAct} {cut : Nat} {behind : List UInt8} (hA : ActsAt H v l) (hA2 : ActsAt H v2 l2) (hn : 1000017 ≤ n) (hcut : cut < 65536) :
    ∃ r H', Ahs.runT ap (n + 1) H.next (.fn 4) [v, v2, .int .u16 (cut : Int), .str behind] H = some (r, H') ∧ r = .bool true := by
  refine F4_run a4 ?_
  unfold F4
  have hal : alen false v = some (.int .i64 (l.length : Int)) := by have := hA.sl.len; rw [List.length_map] at this; exact this
  have hal2 : alen false v2 = some (.int .i64 (l2.length : Int)) := by have := hA2.sl.len; rw [List.length_map] at this; exact this
  have hal3 : alen true (.str behind) = some (.int .i64 (behind.length : Int)) := rfl
  obtain ⟨n', hn'⟩ : ∃ n', n = n' + 1 := ⟨n - 1, by omega⟩
  have hb := b19 (n := n') (lim := H.next) (H := H)
  rw [← hn'] at hb
  by_cases h1 : 120 < l.length
  · have d1 : decide ((120 : Int) < (l.length : Int)) = true := dT (by omega)
    (repeat (first | (with_reducible apply bindP_intro; (focus (first | with_reducible rfl | (simp only [walkR, get0, getS, Nat.zero_add, Nat.add_zero, Bool.not_true, Bool.not_false, decide_true, decide_false, reduceIte, and_self, Bool.false_eq_true, hal, d1, hb] <;> with_reducible rfl)))) | (with_reducible apply bind2_intro; (focus (first | with_reducible rfl | (simp only [walkR, get0, getS, Nat.zero_add, Nat.add_zero, Bool.not_true, Bool.not_false, decide_true, decide_false, reduceIte, and_self, Bool.false_eq_true, hal, d1, hb] <;> with_reducible rfl)))) | with_reducible apply cond_t | with_reducible apply cond_f))
    exact rfl
  have d1 : decide ((120 : Int) < (l.length : Int)) = false := dF (by omega)
  by_cases h2 : 120 < l2.length
  · have d2 : decide ((120 : Int) < (l2.length : Int)) = true := dT (by omega)
    (repeat (first | (with_reducible apply bindP_intro; (focus (first | with_reducible rfl | (simp only [walkR, get0, getS, Nat.zero_add, Nat.add_zero, Bool.not_true, Bool.not_false, decide_true, decide_false, reduceIte, and_self, Bool.false_eq_true, hal, d1, hal2, d2, hb] <;> with_reducible rfl)))) | (with_reducible apply bind2_intro; (focus (first | with_reducible rfl | (simp only [walkR, get0, getS, Nat.zero_add, Nat.add_zero, Bool.not_true, Bool.not_false, decide_true, decide_false, reduceIte, and_self, Bool.false_eq_true, hal, d1, hal2, d2, hb] <;> with_reducible rfl)))) | with_reducible apply cond_t | with_reducible apply cond_f))
    exact rfl
  have d2 : decide ((120 : Int) < (l2.length : Int)) = false := dF (by omega)
  by_cases h3 : 100 < behind.length
  · have d3 : decide ((100 : Int) < (behind.length : Int)) = true := dT (by omega)
    (repeat (first | (with_reducible apply bindP_intro; (focus (first | with_reducible rfl | (simp only [walkR, get0, getS, Nat.zero_add, Nat.add_zero, Bool.not_true, Bool.not_false, decide_true, decide_false, reduceIte, and_self, Bool.false_eq_true, hal, d1, hal2, d2, hal3, d3, hb] <;> with_reducible rfl)))) | (with_reducible apply bind2_intro; (focus (first | with_reducible rfl | (simp only [walkR, get0, getS, Nat.zero_add, Nat.add_zero, Bool.not_true, Bool.not_false, decide_true, decide_false, reduceIte, and_self, Bool.false_eq_true, hal, d1, hal2, d2, hal3, d3, hb] <;> with_reducible rfl)))) | with_reducible apply cond_t | with_reducible apply cond_f))
    exact rfl
  have d3 : decide ((100 : Int) < (behind.length : Int)) = false := dF (by omega)
  obtain ⟨b, m, H1, r1, c1, k1, g1, g2, _, _⟩ := cnew_c (n := n') (lim := H.next) (H := H)
  rw [← hn'] at r1
  (repeat (first | (with_reducible apply bindP_intro; (focus (first | with_reducible rfl | (simp only [walkR, get0, getS, Nat.zero_add, Nat.add_zero, Bool.not_true, Bool.not_false, decide_true, decide_false, reduceIte, and_self, Bool.false_eq_true, hal, d1, hal2, d2, hal3, d3, r1] <;> with_reducible rfl)))) | (with_reducible apply bind2_intro; (focus (first | with_reducible rfl | (simp only [walkR, get0, getS, Nat.zero_add, Nat.add_zero, Bool.not_true, Bool.not_false, decide_true, decide_false, reduceIte, and_self, Bool.false_eq_true, hal, d1, hal2, d2, hal3, d3, r1] <;> with_reducible rfl)))) | with_reducible apply cond_t | with_reducible apply cond_f))
  exact back_loop hA hA2 (Nat.le_refl _) hn (by omega) (by omega) (by omega) (by omega) hcut (fun _ _ => rfl) n 0 b m newC H1 (by omega) (Nat.zero_le _) c1 ok_new k1 g1 g2

theorem back_walk (H : Heap) (vs : List AVal) (h : WfArgs H [(false, .slice actTy .nil), (false, .slice actTy .nil), (false, .int .u16 .nil), (false, .str .nil)] vs) : ∃ n, isTrue (run ap n H.next 4 vs H) = true := by
  obtain ⟨a0, _, rfl, h0, a1, _, rfl, h1, a2, _, rfl, h2, a3, _, rfl, h3, rfl⟩ := h
  simp only [Bool.false_eq_true, if_false] at h0 h1 h2 h3
  obtain ⟨l0, A0⟩ := wf_acts h0
  obtain ⟨l1, A1⟩ := wf_acts h1
  obtain ⟨c, _, e2, hc, _⟩ := h2
  obtain ⟨s, _, e3, _, _⟩ := h3
  simp only [List.cons.injEq] at e2 e3
  obtain ⟨rfl, _⟩ := e2
  obtain ⟨rfl, _⟩ := e3
  have hc' : 0 ≤ c ∧ c ≤ 65535 := by
    simp [Lit.wf, IntKind.min, IntKind.max, IntKind.signed, IntKind.bits] at hc
    exact hc
  obtain ⟨k, rfl⟩ : ∃ k : Nat, c = (k : Int) := ⟨c.toNat, by omega⟩
  exact ⟨_, isTrue_run (back_c (n := 2000000) A0 A1 (by omega) (by omega))⟩
end Go.Proofs.Ytjflpnahjooffaa.cat
