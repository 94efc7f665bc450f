/- What the functions of the disk come to: contracts. First part. -/
import Derived.Test.YtjflpnahjooffaaDxPr
import Derived.Test.YtjflpnahjooffaaDxW0
import Derived.Test.YtjflpnahjooffaaDxLaw
import Derived.Test.YtjflpnahjooffaaChsX2
set_option maxRecDepth 100000
set_option linter.unusedVariables false
set_option linter.unusedSimpArgs false
namespace Go.Proofs.Ytjflpnahjooffaa.disk
open Go.Ahs

abbrev ptr (b : Nat) : AVal := .ptr (some (b, 0))
def encR (rs : List Str) : List (List AVal) := rs.map fun r => [.str r]

/-- A file, as a map's element; M: the blocks that are written. -/
def FilAt (M : Nat → Prop) (H : Heap) (v : AVal) (f : Fil) : Prop :=
  ∃ s, v = .agg [s, .int .i64 (f.syn : Int), .bool f.cut, .str f.torn] ∧ Fz H 1 s (encR f.recs) ∧ ∀ c, slBlk s = some c → ¬ M c

structure DiskAt (M : Nat → Prop) (H : Heap) (b m : Nat) (D : Dsk) : Prop where
  cells : H.cells b = some [.map (some m), .bool D.off, .int .i64 (D.fuse : Int)]
  map : MapAt strK H m (FilAt M H) D.fs

/-- Its own blocks. -/
def dft (b m c : Nat) : Prop := c = b ∨ c = m

section
variable {M : Nat → Prop} {H : Heap} {b m : Nat} {D : Dsk}

theorem FilAt.frame {S : Nat → Prop} {H' : Heap} {v : AVal} {f : Fil} (h : FilAt M H v f) (hf : Fram S H H') (hs : ∀ c, S c → M c) : FilAt M H' v f := by
  obtain ⟨s, h1, h2, h3⟩ := h
  exact ⟨s, h1, h2.frame hf (fun c hc e => h3 c hc (hs c e)), h3⟩

theorem DiskAt.ne (h : DiskAt M H b m D) : b ≠ m := by
  intro e
  obtain ⟨vs, clk, h1, _⟩ := h.map.ex
  have := Heap.cells_eq.1 h.cells
  rw [e, h1] at this
  simp at this
theorem DiskAt.ltb (h : DiskAt M H b m D) : b < H.next := Heap.cells_lt h.cells
theorem DiskAt.ltm (h : DiskAt M H b m D) : m < H.next := h.map.lt

theorem DiskAt.frame {S : Nat → Prop} {H' : Heap} (h : DiskAt M H b m D) (hf : Fram S H H') (hb : ¬ S b) (hm : ¬ S m) (hs : ∀ c, S c → M c) : DiskAt M H' b m D :=
  ⟨hf.cells h.cells hb, h.map.mono (hf.get m h.ltm hm) fun k v a _ hR => hR.frame hf hs⟩
theorem DiskAt.keep {H' : Heap} (h : DiskAt M H b m D) (hk : Keeps2 H H') : DiskAt M H' b m D := h.frame (S := fun _ => False) (.of hk) (fun e => e) (fun e => e) (fun _ e => e.elim)

/-- More blocks may be written, that are not the files'. -/
theorem DiskAt.more {M' : Nat → Prop} (h : DiskAt M H b m D) (hM : ∀ c, c < H.next → M' c → M c) : DiskAt M' H b m D :=
  ⟨h.cells, h.map.mono rfl fun k v a _ hR => by
    obtain ⟨s, h1, h2, h3⟩ := hR
    exact ⟨s, h1, h2, fun c hc e => h3 c hc (hM c (h2.lt c hc) e)⟩⟩

/-- The disk's own cells are written. -/
theorem DiskAt.setb (h : DiskAt M H b m D) (hMb : M b) {D' : Dsk} (hfs : D'.fs = D.fs) : DiskAt M (H.set b (.cells [.map (some m), .bool D'.off, .int .i64 (D'.fuse : Int)])) b m D' := by
  refine ⟨cells_set_same h.ltb, ?_⟩
  rw [hfs]
  exact h.map.mono (Heap.get_set_other _ _ _ _ (Ne.symm h.ne)) fun k v a _ hR => hR.frame (Fram.set (S := fun c => c = b) rfl) (fun c e => by rw [e]; exact hMb)

theorem none_c {n lim : Nat} (h : DiskAt M H b m D) : Ahs.runT ap (n + 1) lim (.fn 79) [ptr b] H = some (.bool false, H) := by
  refine run_eqn (F79_run a79 ?_)
  unfold F79
  (repeat (first | (with_reducible apply bindP_intro; (focus (first | with_reducible rfl | (simp only [walkR, get0, getS, Nat.zero_add, Nat.add_zero, Bool.not_true, Bool.not_false, decide_true, decide_false, reduceIte, and_self, Bool.false_eq_true, aload_one h.cells, eqvO_mapS] <;> with_reducible rfl)))) | (with_reducible apply bind2_intro; (focus (first | with_reducible rfl | (simp only [walkR, get0, getS, Nat.zero_add, Nat.add_zero, Bool.not_true, Bool.not_false, decide_true, decide_false, reduceIte, and_self, Bool.false_eq_true, aload_one h.cells, eqvO_mapS] <;> with_reducible rfl)))) | with_reducible apply cond_t | with_reducible apply cond_f))
  exact ⟨rfl, rfl⟩

def powerI (D : Dsk) : Int := if D.off = true then 7 else 0

theorem power_c {n lim : Nat} (h : DiskAt M H b m D) : Ahs.runT ap (n + 2) lim (.fn 82) [ptr b] H = some (.int .i64 (powerI D), H) := by
  refine run_eqn (F82_run a82 ?_)
  unfold F82 powerI
  cases ho : D.off with
  | true =>
    (repeat (first | (with_reducible apply bindP_intro; (focus (first | with_reducible rfl | (simp only [walkR, get0, getS, Nat.zero_add, Nat.add_zero, Bool.not_true, Bool.not_false, decide_true, decide_false, reduceIte, and_self, Bool.false_eq_true, none_c h, aload_one h.cells, ho, boolOf_b] <;> with_reducible rfl)))) | (with_reducible apply bind2_intro; (focus (first | with_reducible rfl | (simp only [walkR, get0, getS, Nat.zero_add, Nat.add_zero, Bool.not_true, Bool.not_false, decide_true, decide_false, reduceIte, and_self, Bool.false_eq_true, none_c h, aload_one h.cells, ho, boolOf_b] <;> with_reducible rfl)))) | with_reducible apply cond_t | with_reducible apply cond_f))
    exact ⟨rfl, rfl⟩
  | false =>
    (repeat (first | (with_reducible apply bindP_intro; (focus (first | with_reducible rfl | (simp only [walkR, get0, getS, Nat.zero_add, Nat.add_zero, Bool.not_true, Bool.not_false, decide_true, decide_false, reduceIte, and_self, Bool.false_eq_true, none_c h, aload_one h.cells, ho, boolOf_b] <;> with_reducible rfl)))) | (with_reducible apply bind2_intro; (focus (first | with_reducible rfl | (simp only [walkR, get0, getS, Nat.zero_add, Nat.add_zero, Bool.not_true, Bool.not_false, decide_true, decide_false, reduceIte, and_self, Bool.false_eq_true, none_c h, aload_one h.cells, ho, boolOf_b] <;> with_reducible rfl)))) | with_reducible apply cond_t | with_reducible apply cond_f))
    exact ⟨rfl, rfl⟩

/-- What an operation that changes a disk has done. -/
structure DOut (M : Nat → Prop) (H : Heap) (b m : Nat) (e : Int) (D' : Dsk) (v : AVal) (H' : Heap) : Prop where
  v : v = .int .i64 e
  at' : DiskAt M H' b m D'
  fr : Fram (dft b m) H H'

theorem burns_c {n lim : Nat} (h : DiskAt M H b m D) (hMb : M b) (hlb : lim ≤ b) (hf : D.fuse < 9223372036854775808) :
    ∃ v H', Ahs.runT ap (n + 3) lim (.fn 86) [ptr b] H = some (v, H') ∧ DOut M H b m (powerI (burn D)) (burn D) v H' := by
  refine F86_run a86 ?_
  unfold F86
  by_cases h0 : D.fuse = 0
  · have hd : decide ((0 : Int) < ((D.fuse : Nat) : Int)) = false := dF (by omega)
    have hb : burn D = D := by unfold burn; rw [if_pos h0]
    (repeat (first | (with_reducible apply bindP_intro; (focus (first | with_reducible rfl | (simp only [walkR, get0, getS, Nat.zero_add, Nat.add_zero, Bool.not_true, Bool.not_false, decide_true, decide_false, reduceIte, and_self, Bool.false_eq_true, aload_one h.cells, hd] <;> with_reducible rfl)))) | (with_reducible apply bind2_intro; (focus (first | with_reducible rfl | (simp only [walkR, get0, getS, Nat.zero_add, Nat.add_zero, Bool.not_true, Bool.not_false, decide_true, decide_false, reduceIte, and_self, Bool.false_eq_true, aload_one h.cells, hd] <;> with_reducible rfl)))) | with_reducible apply cond_t | with_reducible apply cond_f))
    unfold F86_j0
    (repeat (first | (with_reducible apply bindP_intro; (focus (first | with_reducible rfl | (simp only [walkR, get0, getS, Nat.zero_add, Nat.add_zero, Bool.not_true, Bool.not_false, decide_true, decide_false, reduceIte, and_self, Bool.false_eq_true, power_c h] <;> with_reducible rfl)))) | (with_reducible apply bind2_intro; (focus (first | with_reducible rfl | (simp only [walkR, get0, getS, Nat.zero_add, Nat.add_zero, Bool.not_true, Bool.not_false, decide_true, decide_false, reduceIte, and_self, Bool.false_eq_true, power_c h] <;> with_reducible rfl)))) | with_reducible apply cond_t | with_reducible apply cond_f))
    rw [hb]
    exact ⟨rfl, h, .refl _ _⟩
  · have hd : decide ((0 : Int) < ((D.fuse : Nat) : Int)) = true := dT (by omega)
    have hb : burn D = { D with fuse := D.fuse - 1, off := decide (D.fuse = 1) } := by unfold burn; rw [if_neg h0]
    have hw : IntKind.i64.wrap (((D.fuse : Nat) : Int) - 1) = ((D.fuse - 1 : Nat) : Int) := by rw [wrap_i64 (by omega) (by omega)]; omega
    have s1 : astore lim H 1 (.ptr (some (b, 2))) (.int .i64 ((D.fuse - 1 : Nat) : Int)) = some (H.set b (.cells [.map (some m), .bool D.off, .int .i64 ((D.fuse - 1 : Nat) : Int)])) := astore_cell h.cells hlb rfl rfl (by show 2 < 3; omega) rfl
    have c1 : (H.set b (.cells [.map (some m), .bool D.off, .int .i64 ((D.fuse - 1 : Nat) : Int)])).cells b = some [.map (some m), .bool D.off, .int .i64 ((D.fuse - 1 : Nat) : Int)] := cells_set_same h.ltb
    have hq : (((D.fuse - 1 : Nat) : Int) == 0) = decide (D.fuse = 1) := by
      rw [Bool.eq_iff_iff]; simp; omega
    have s2 : astore lim (H.set b (.cells [.map (some m), .bool D.off, .int .i64 ((D.fuse - 1 : Nat) : Int)])) 1 (.ptr (some (b, 1))) (.bool (decide (D.fuse = 1))) = some (H.set b (.cells [.map (some m), .bool (decide (D.fuse = 1)), .int .i64 ((D.fuse - 1 : Nat) : Int)])) := by
      rw [astore_cell (cs' := [.map (some m), .bool (decide (D.fuse = 1)), .int .i64 ((D.fuse - 1 : Nat) : Int)]) c1 hlb rfl rfl (by show 1 < 3; omega) rfl]
      simp only [Heap.set, Tr.set_set]
    have h2 : DiskAt M (H.set b (.cells [.map (some m), .bool (decide (D.fuse = 1)), .int .i64 ((D.fuse - 1 : Nat) : Int)])) b m (burn D) := by
      have := h.setb (D' := burn D) hMb (burn_fs D)
      rw [hb] at this ⊢
      exact this
    (repeat (first | (with_reducible apply bindP_intro; (focus (first | with_reducible rfl | (simp only [walkR, get0, getS, Nat.zero_add, Nat.add_zero, Bool.not_true, Bool.not_false, decide_true, decide_false, reduceIte, and_self, Bool.false_eq_true, aload_one h.cells, hd, hw, s1, aload_one c1, hq, s2] <;> with_reducible rfl)))) | (with_reducible apply bind2_intro; (focus (first | with_reducible rfl | (simp only [walkR, get0, getS, Nat.zero_add, Nat.add_zero, Bool.not_true, Bool.not_false, decide_true, decide_false, reduceIte, and_self, Bool.false_eq_true, aload_one h.cells, hd, hw, s1, aload_one c1, hq, s2] <;> with_reducible rfl)))) | with_reducible apply cond_t | with_reducible apply cond_f))
    unfold F86_j0
    (repeat (first | (with_reducible apply bindP_intro; (focus (first | with_reducible rfl | (simp only [walkR, get0, getS, Nat.zero_add, Nat.add_zero, Bool.not_true, Bool.not_false, decide_true, decide_false, reduceIte, and_self, Bool.false_eq_true, power_c h2] <;> with_reducible rfl)))) | (with_reducible apply bind2_intro; (focus (first | with_reducible rfl | (simp only [walkR, get0, getS, Nat.zero_add, Nat.add_zero, Bool.not_true, Bool.not_false, decide_true, decide_false, reduceIte, and_self, Bool.false_eq_true, power_c h2] <;> with_reducible rfl)))) | with_reducible apply cond_t | with_reducible apply cond_f))
    exact ⟨rfl, h2, .set (.inl rfl)⟩

theorem right_c {n lim : Nat} {s : Str} : Ahs.runT ap (n + 1) lim (.fn 85) [.str s] H = some (.bool (rightN s), H) := by
  refine run_eqn (F85_run a85 ?_)
  unfold F85 rightN
  have hne : (!(s == ([] : List UInt8))) = decide (s ≠ []) := by
    cases s <;> simp
  by_cases h0 : s = []
  · subst h0
    have he : (([] : List UInt8) == []) = true := rfl
    (repeat (first | (with_reducible apply bindP_intro; (focus (first | with_reducible rfl | (simp only [walkR, get0, getS, Nat.zero_add, Nat.add_zero, Bool.not_true, Bool.not_false, decide_true, decide_false, reduceIte, and_self, Bool.false_eq_true, he] <;> with_reducible rfl)))) | (with_reducible apply bind2_intro; (focus (first | with_reducible rfl | (simp only [walkR, get0, getS, Nat.zero_add, Nat.add_zero, Bool.not_true, Bool.not_false, decide_true, decide_false, reduceIte, and_self, Bool.false_eq_true, he] <;> with_reducible rfl)))) | with_reducible apply cond_t | with_reducible apply cond_f))
    exact ⟨rfl, rfl⟩
  · have hd : decide (s ≠ []) = true := dT h0
    have hl : decide ((s.length : Int) ≤ 32) = decide (s.length ≤ 32) := by
      rw [Bool.eq_iff_iff]; simp; omega
    (repeat (first | (with_reducible apply bindP_intro; (focus (first | with_reducible rfl | (simp only [walkR, get0, getS, Nat.zero_add, Nat.add_zero, Bool.not_true, Bool.not_false, decide_true, decide_false, reduceIte, and_self, Bool.false_eq_true, hne, hd, hl] <;> with_reducible rfl)))) | (with_reducible apply bind2_intro; (focus (first | with_reducible rfl | (simp only [walkR, get0, getS, Nat.zero_add, Nat.add_zero, Bool.not_true, Bool.not_false, decide_true, decide_false, reduceIte, and_self, Bool.false_eq_true, hne, hd, hl] <;> with_reducible rfl)))) | with_reducible apply cond_t | with_reducible apply cond_f))
    rw [hd]
    exact ⟨rfl, rfl⟩

theorem clip_c {n lim : Nat} {s : AVal} {xs : List (List AVal)} (h : Fz H 1 s xs) : ∃ s', Ahs.runT ap (n + 1) lim (.fn 87) [s] H = some (s', H) ∧ Fz H 1 s' xs ∧ Full s' ∧ slBlk s' = slBlk s := by
  obtain ⟨s', h1, h2, h3, h4⟩ := h.clip
  refine ⟨s', ?_, h2, h3, h4⟩
  refine run_eqn (F87_run a87 ?_)
  unfold F87
  (repeat (first | (with_reducible apply bindP_intro; (focus (first | with_reducible rfl | (simp only [walkR, get0, getS, Nat.zero_add, Nat.add_zero, Bool.not_true, Bool.not_false, decide_true, decide_false, reduceIte, and_self, Bool.false_eq_true, h.sl.len, h1] <;> with_reducible rfl)))) | (with_reducible apply bind2_intro; (focus (first | with_reducible rfl | (simp only [walkR, get0, getS, Nat.zero_add, Nat.add_zero, Bool.not_true, Bool.not_false, decide_true, decide_false, reduceIte, and_self, Bool.false_eq_true, h.sl.len, h1] <;> with_reducible rfl)))) | with_reducible apply cond_t | with_reducible apply cond_f))
  exact ⟨rfl, rfl⟩

theorem encR_len (rs : List Str) : (encR rs).length = rs.length := by unfold encR; simp
theorem encR_app (rs ss : List Str) : encR (rs ++ ss) = encR rs ++ encR ss := by unfold encR; simp
theorem encR_one (r : Str) : encR [r] = [[.str r]] := rfl
theorem encR_take (rs : List Str) (k : Nat) : encR (rs.take k) = (encR rs).take k := by unfold encR; rw [List.map_take]

/-- The file under a name, looked up. -/
theorem DiskAt.look (h : DiskAt M H b m D) (n : Str) : ∃ v ok, FilAt M H v ((lk D.fs n).getD noFil) ∧ ok = (lk D.fs n).isSome ∧
    ∀ c, alookup H false [.str] (.agg [.sl none 0 (.ex 0), .int .i64 0, .bool false, .str []]) c (.map (some m)) (.str n) = some (if c = true then .tup [v, .bool ok] else v) := by
  cases hl : lk D.fs n with
  | none => exact ⟨_, false, ⟨_, rfl, Fz.nil H 1, fun c hc => by simp [slBlk] at hc⟩, rfl, h.map.lookup_none hl _⟩
  | some f =>
    obtain ⟨v, h1, h2⟩ := h.map.lookup_some hl (.agg [.sl none 0 (.ex 0), .int .i64 0, .bool false, .str []])
    exact ⟨v, true, h1, rfl, h2⟩

/-- A file is laid under a name. -/
theorem DiskAt.put {lim : Nat} (h : DiskAt M H b m D) (hMm : M m) (hlm : lim ≤ m) (hA : Asc D.fs) (n : Str) {v : AVal} {f : Fil} (hv : FilAt M H v f) :
    ∃ H', amapUpdate lim H false [.str] (.map (some m)) (.str n) v = some H' ∧ DiskAt M H' b m { D with fs := ins n f D.fs } ∧ Fram (dft b m) H H' := by
  obtain ⟨x, h1, h2⟩ := h.map.update hlm n hv
  have hfr : Fram (fun c => c = m) H (H.set m x) := .set rfl
  refine ⟨_, h1, ⟨?_, ?_⟩, hfr.weaken fun c _ e => .inr e⟩
  · exact cells_set_other h.cells h.ne
  · exact (h2 _ (ins_put hA)).mono rfl fun k v a _ hR => hR.frame hfr fun c e => by rw [e]; exact hMm

theorem DiskAt.delete {lim : Nat} (h : DiskAt M H b m D) (hMm : M m) (hlm : lim ≤ m) (hA : Asc D.fs) (n : Str) :
    ∃ H', amapDelete lim H false [.str] (.map (some m)) (.str n) = some H' ∧ DiskAt M H' b m { D with fs := del n D.fs } ∧ Fram (dft b m) H H' := by
  obtain ⟨x, h1, h2⟩ := h.map.delete hlm n
  have hfr : Fram (fun c => c = m) H (H.set m x) := .set rfl
  refine ⟨_, h1, ⟨?_, ?_⟩, hfr.weaken fun c _ e => .inr e⟩
  · exact cells_set_other h.cells h.ne
  · exact (h2 _ (del_del hA)).mono rfl fun k v a _ hR => hR.frame hfr fun c e => by rw [e]; exact hMm

theorem filAt_cells {v : AVal} {f : Fil} (h : FilAt M H v f) : v.cells.length = 4 ∧ v.cells.all (·.one) = true := by
  obtain ⟨s, rfl, h2, _⟩ := h
  exact ⟨rfl, by simp only [AVal.cells, List.all_cons, List.all_nil, h2.one.1, Bool.and_true]; rfl⟩

theorem append_c {n lim K : Nat} (h : DiskAt M H b m D) (hD : DskOK K D) (hK : K ≤ 1000000000000) (hMb : M b) (hMm : M m) (hlb : lim ≤ b) (hlm : lim ≤ m) (hM : ∀ c, H.next ≤ c → ¬ M c) (name r : Str) :
    ∃ v H', Ahs.runT ap (n + 4) lim (.fn 48) [ptr b, .str name, .str r] H = some (v, H') ∧ DOut M H b m (appendD D name r).1 (appendD D name r).2 v H' := by
  refine F48_run a48 ?_
  unfold F48 appendD
  have hlt := h.ltb
  have hltm := h.ltm
  cases ho : D.off with
  | true =>
    have hp : powerI D = 7 := by unfold powerI; rw [ho]; rfl
    have hq : ((7 : Int) != 0) = true := rfl
    (repeat (first | (with_reducible apply bindP_intro; (focus (first | with_reducible rfl | (simp only [walkR, get0, getS, Nat.zero_add, Nat.add_zero, Bool.not_true, Bool.not_false, decide_true, decide_false, reduceIte, and_self, Bool.false_eq_true, power_c h, hp, hq] <;> with_reducible rfl)))) | (with_reducible apply bind2_intro; (focus (first | with_reducible rfl | (simp only [walkR, get0, getS, Nat.zero_add, Nat.add_zero, Bool.not_true, Bool.not_false, decide_true, decide_false, reduceIte, and_self, Bool.false_eq_true, power_c h, hp, hq] <;> with_reducible rfl)))) | with_reducible apply cond_t | with_reducible apply cond_f))
    exact ⟨rfl, h, .refl _ _⟩
  | false =>
    have hp : powerI D = 0 := by unfold powerI; rw [ho]; rfl
    obtain ⟨v, ok, hv, _, hlk⟩ := h.look name
    have hlk' := hlk false
    obtain ⟨s, rfl, hs1, hs2⟩ := hv
    generalize hf0 : (lk D.fs name).getD noFil = f at *
    have hso := hs1.one
    have st : ∀ z : List AVal, z.length = 4 → astore lim (H.push (.cells z)) 4 (.ptr (some (H.next, 0))) (.agg [s, .int .i64 (f.syn : Int), .bool f.cut, .str f.torn]) = some (H.push (.cells [s, .int .i64 (f.syn : Int), .bool f.cut, .str f.torn])) := fun z hz =>
      astore_new (x := .agg [s, .int .i64 (f.syn : Int), .bool f.cut, .str f.torn]) (by omega) rfl hz (by simp only [AVal.cells, List.all_cons, List.all_nil, hso.1, Bool.and_true]; rfl)
    have st := st ze3a7c2 rfl
    simp only [Bool.false_eq_true, if_false]
    by_cases hr : rightN name = false ∨ r = []
    · rw [if_pos hr]
      have hx : Keeps2 H (H.push (.cells [s, .int .i64 (f.syn : Int), .bool f.cut, .str f.torn])) := .push _ _
      cases hn : rightN name with
      | false =>
        (repeat (first | (with_reducible apply bindP_intro; (focus (first | with_reducible rfl | (simp only [walkR, get0, getS, Nat.zero_add, Nat.add_zero, Bool.not_true, Bool.not_false, decide_true, decide_false, reduceIte, and_self, Bool.false_eq_true, power_c h, hp, ne00, aload_one h.cells, hlk', st, right_c, hn] <;> with_reducible rfl)))) | (with_reducible apply bind2_intro; (focus (first | with_reducible rfl | (simp only [walkR, get0, getS, Nat.zero_add, Nat.add_zero, Bool.not_true, Bool.not_false, decide_true, decide_false, reduceIte, and_self, Bool.false_eq_true, power_c h, hp, ne00, aload_one h.cells, hlk', st, right_c, hn] <;> with_reducible rfl)))) | with_reducible apply cond_t | with_reducible apply cond_f))
        exact ⟨rfl, h.keep hx, .of hx⟩
      | true =>
        have hr0 : r = [] := by rcases hr with e | e
                                · rw [hn] at e; simp at e
                                · exact e
        subst hr0
        have he : (([] : List UInt8) == []) = true := rfl
        (repeat (first | (with_reducible apply bindP_intro; (focus (first | with_reducible rfl | (simp only [walkR, get0, getS, Nat.zero_add, Nat.add_zero, Bool.not_true, Bool.not_false, decide_true, decide_false, reduceIte, and_self, Bool.false_eq_true, power_c h, hp, ne00, aload_one h.cells, hlk', st, right_c, hn, he] <;> with_reducible rfl)))) | (with_reducible apply bind2_intro; (focus (first | with_reducible rfl | (simp only [walkR, get0, getS, Nat.zero_add, Nat.add_zero, Bool.not_true, Bool.not_false, decide_true, decide_false, reduceIte, and_self, Bool.false_eq_true, power_c h, hp, ne00, aload_one h.cells, hlk', st, right_c, hn, he] <;> with_reducible rfl)))) | with_reducible apply cond_t | with_reducible apply cond_f))
        exact ⟨rfl, h.keep hx, .of hx⟩
    · rw [if_neg hr]
      have hn : rightN name = true := by
        cases hn : rightN name with
        | true => rfl
        | false => exact absurd (Or.inl hn) hr
      have hr0 : (r == ([] : List UInt8)) = false := by
        cases r with
        | nil => exact absurd (Or.inr rfl) hr
        | cons a l => rfl
      have kx : Keeps2 H (H.push (.cells [s, .int .i64 (f.syn : Int), .bool f.cut, .str f.torn])) := .push _ _
      have h1 := (h.more (M' := fun c => M c ∨ c = H.next) (fun c hc e => by rcases e with e | e; exact e; omega)).keep kx
      have lx : ∀ o, aload (H.push (.cells [s, .int .i64 (f.syn : Int), .bool f.cut, .str f.torn])) none (.ptr (some (H.next, o))) = ([s, .int .i64 (f.syn : Int), .bool f.cut, .str f.torn] : List AVal)[o]? := fun o => aload_new1 _ _ _
      cases hc : f.cut with
      | true =>
        rw [hc] at lx st kx h1 hlk'
        (repeat (first | (with_reducible apply bindP_intro; (focus (first | with_reducible rfl | (simp only [walkR, get0, getS, Nat.zero_add, Nat.add_zero, Bool.not_true, Bool.not_false, decide_true, decide_false, reduceIte, and_self, Bool.false_eq_true, power_c h, hp, ne00, aload_one h.cells, hlk', st, right_c, hn, hr0, lx] <;> with_reducible rfl)))) | (with_reducible apply bind2_intro; (focus (first | with_reducible rfl | (simp only [walkR, get0, getS, Nat.zero_add, Nat.add_zero, Bool.not_true, Bool.not_false, decide_true, decide_false, reduceIte, and_self, Bool.false_eq_true, power_c h, hp, ne00, aload_one h.cells, hlk', st, right_c, hn, hr0, lx] <;> with_reducible rfl)))) | with_reducible apply cond_t | with_reducible apply cond_f))
        exact ⟨rfl, h1.more (fun c _ e => .inl e), .of kx⟩
      | false =>
        rw [hc] at lx st kx h1 hlk'
        obtain ⟨vb, H2, e1, e2, e3, e4⟩ := burns_c (n := n) (lim := lim) h1 (.inl hMb) hlb hD.fuse
        have hxc : H2.cells H.next = some [s, .int .i64 (f.syn : Int), .bool false, .str f.torn] := e4.cells (cells_push_new H _) (fun e => by rcases e with e | e <;> omega)
        have hHn2 : H.next < H2.next := Heap.cells_lt hxc
        have f02 : Fram (dft b m) H H2 := (Fram.of kx).trans e4 (fun c _ e => e)
        simp only [Bool.false_eq_true, if_false]
        unfold operD
        cases hbo : (burn D).off with
        | true =>
          have hp2 : powerI (burn D) = 7 := by unfold powerI; rw [hbo]; rfl
          have hq : ((7 : Int) != 0) = true := rfl
          rw [hp2] at e2
          subst e2
          (repeat (first | (with_reducible apply bindP_intro; (focus (first | with_reducible rfl | (simp only [walkR, get0, getS, Nat.zero_add, Nat.add_zero, Bool.not_true, Bool.not_false, decide_true, decide_false, reduceIte, and_self, Bool.false_eq_true, power_c h, hp, ne00, aload_one h.cells, hlk', st, right_c, hn, hr0, lx, e1, hq] <;> with_reducible rfl)))) | (with_reducible apply bind2_intro; (focus (first | with_reducible rfl | (simp only [walkR, get0, getS, Nat.zero_add, Nat.add_zero, Bool.not_true, Bool.not_false, decide_true, decide_false, reduceIte, and_self, Bool.false_eq_true, power_c h, hp, ne00, aload_one h.cells, hlk', st, right_c, hn, hr0, lx, e1, hq] <;> with_reducible rfl)))) | with_reducible apply cond_t | with_reducible apply cond_f))
          exact ⟨rfl, e3.more (fun c _ e => .inl e), f02⟩
        | false =>
          have hp2 : powerI (burn D) = 0 := by unfold powerI; rw [hbo]; rfl
          rw [hp2] at e2
          subst e2
          have hs2' : Fz H2 1 s (encR f.recs) := hs1.frame f02 fun c hc e => hs2 c hc (by rcases e with rfl | rfl <;> assumption)
          obtain ⟨s', c1, c2, c3, c4⟩ := clip_c (n := n + 2) (lim := lim) hs2'
          have hfl : fillV [.str []] [(0, 1, .str r)] = some [.str r] := rfl
          have k3 : Keeps2 H2 (H2.push (.cells [.str r])) := .push _ _
          have hfo := lk_ok hD name
          rw [hf0] at hfo
          have hmany := hfo.many
          have hsrc : source (H2.push (.cells [.str r])) 1 (.sl (some (H2.next, 0)) 1 (.ex 1)) = some (([[.str r]] : List (List AVal)).length, ([[.str r]] : List (List AVal)).flatten) := source_new H2 rfl (by decide)
          have hrm : room = 140737488355328 := rfl
          obtain ⟨d1, d2⟩ := (c2.keep k3).append (lim := lim) c3 (bytes := 16) (zero := [.str []]) (x := .sl (some (H2.next, 0)) 1 (.ex 1)) (ys := [[.str r]]) rfl (by decide) hsrc (fun y hy => by simp at hy; subst hy; exact ⟨rfl, rfl⟩) (by simp) (by rw [encR_len]; simp; omega) (by rw [encR_len]; simp; omega)
          have n3 : (H2.push (.cells [.str r])).next = H2.next + 1 := Heap.next_push _ _
          generalize hH4 : (H2.push (.cells [.str r])).push (.cells ((encR f.recs).flatten ++ [[AVal.str r]].flatten)) = H4 at d1 d2
          have k4 : Keeps2 H2 H4 := by rw [← hH4]; exact k3.trans (.push _ _)
          have x4 : H4.cells H.next = some [s, .int .i64 (f.syn : Int), .bool false, .str f.torn] := k4.cells hxc
          have s5 : astore lim H4 1 (.ptr (some (H.next, 0))) (.sl (some ((H2.push (.cells [.str r])).next, 0)) ((encR f.recs).length + [[AVal.str r]].length) (.op 1 0)) = some (H4.set H.next (.cells [.sl (some ((H2.push (.cells [.str r])).next, 0)) ((encR f.recs).length + [[AVal.str r]].length) (.op 1 0), .int .i64 (f.syn : Int), .bool false, .str f.torn])) :=
            astore_cell x4 (by omega) rfl rfl (by show 0 < 4; omega) rfl
          generalize hnv : (AVal.sl (some ((H2.push (.cells [.str r])).next, 0)) ((encR f.recs).length + [[AVal.str r]].length) (.op 1 0)) = nv at *
          have hnb : slBlk nv = some (H2.next + 1) := by rw [← hnv, n3]; rfl
          have hnn : (H4.set H.next (.cells [nv, .int .i64 (f.syn : Int), .bool false, .str f.torn])).next = H4.next := Heap.next_set _ _ _
          have f5 : Fram (fun c => c = H.next) H4 (H4.set H.next (.cells [nv, .int .i64 (f.syn : Int), .bool false, .str f.torn])) := .set rfl
          have h5 : DiskAt (fun c => M c ∨ c = H.next) (H4.set H.next (.cells [nv, .int .i64 (f.syn : Int), .bool false, .str f.torn])) b m (burn D) := (e3.keep k4).frame f5 (by omega) (by omega) (fun c e => .inr e)
          have v5 : FilAt (fun c => M c ∨ c = H.next) (H4.set H.next (.cells [nv, .int .i64 (f.syn : Int), .bool false, .str f.torn])) (.agg [nv, .int .i64 (f.syn : Int), .bool false, .str f.torn]) { f with recs := f.recs ++ [r] } := by
            refine ⟨nv, by simp [hc], ?_, fun c hcc e => ?_⟩
            · rw [encR_app, encR_one]
              exact d2.frame f5 (fun c hcc e => by rw [hnb] at hcc; simp at hcc; omega)
            · rw [hnb] at hcc; simp at hcc
              rcases e with e | e
              · exact hM c (by omega) e
              · omega
          obtain ⟨H6, u1, u2, u3⟩ := h5.put (lim := lim) (.inl hMm) hlm (by rw [burn_fs]; exact hD.asc) name v5
          have x5 : (H4.set H.next (.cells [nv, .int .i64 (f.syn : Int), .bool false, .str f.torn])).cells H.next = some [nv, .int .i64 (f.syn : Int), .bool false, .str f.torn] := cells_set_same (by have := k4.next; omega)
          (repeat (first | (with_reducible apply bindP_intro; (focus (first | with_reducible rfl | (simp only [walkR, get0, getS, Nat.zero_add, Nat.add_zero, Bool.not_true, Bool.not_false, decide_true, decide_false, reduceIte, and_self, Bool.false_eq_true, power_c h, hp, ne00, aload_one h.cells, hlk', st, right_c, hn, hr0, lx, e1, aload_one hxc, c1, hfl, d1, s5, aload_one h5.cells, aload_all (n := 4) x5 rfl, u1] <;> with_reducible rfl)))) | (with_reducible apply bind2_intro; (focus (first | with_reducible rfl | (simp only [walkR, get0, getS, Nat.zero_add, Nat.add_zero, Bool.not_true, Bool.not_false, decide_true, decide_false, reduceIte, and_self, Bool.false_eq_true, power_c h, hp, ne00, aload_one h.cells, hlk', st, right_c, hn, hr0, lx, e1, aload_one hxc, c1, hfl, d1, s5, aload_one h5.cells, aload_all (n := 4) x5 rfl, u1] <;> with_reducible rfl)))) | with_reducible apply cond_t | with_reducible apply cond_f))
          rw [hc] at u2
          exact ⟨rfl, u2.more (fun c _ e => .inl e), ((f02.trans (.of (S := dft b m) k4) (fun c _ e => e)).trans f5 (fun c hc e => by omega)).trans u3 (fun c _ e => e)⟩

end
end Go.Proofs.Ytjflpnahjooffaa.disk
