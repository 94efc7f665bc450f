/- append. -/
import Derived.Test.YtnlimogbokkfpaaGreatChsA8
import Derived.Laws.Append
set_option linter.unusedSimpArgs false
set_option linter.unusedVariables false
namespace Go.Ahs
section
variable {P : Program} {n0 lim : Nat} {ρ : Mp} {H H' : Heap} {w : World} {v : AVal}
structure AppFacts (P : Program) (t tx e : TypeId) (i : TypeInfo) (z : Value) (zeros : Bool) (argTypes : Array TypeId) (x' : Value) (m : Nat) (w : World) (news : Array Value) : Prop where
 h0 : argTypes[0]? = some t
 h1 : argTypes[1]? = some tx
 ht : P.underlying t = some (.slice e)
 htx : if zeros then (∃ k, P.underlying tx = some (.int k)) else ((∃ k, P.underlying tx = some (.slice k)) ∨ P.underlying tx = some .string)
 hi : P.info? e = some i
 hz : i.zero = some z
 hsz : 0 < i.size
 hzc : z.cells.size = i.size
 src : if zeros then (∃ l : Int, x' = .int .i64 l ∧ 0 ≤ l ∧ l.toNat = m ∧ l ≤ 140737488355328 ∧ l * i.bytes ≤ 281474976710656 ∧ news = Builtin.zeroCells z.cells m) else
  ((Builtin.lenOf x').run P w = .ok m w ∧ ∀ w' : World, w'.heap = w.heap → (Builtin.firstCells i.size m x').run P w' = .ok news w')
theorem wrap_small {l : Int} (h0 : 0 ≤ l) (h : l ≤ 140737488355328) : IntKind.i64.wrap l = l := by
 unfold IntKind.wrap IntKind.bits IntKind.signed
 have : l % (2 ^ 64 : Int) = l := Int.emod_eq_of_lt h0 (by omega)
 simp only [this]
 rw [if_neg]
 simp; omega
theorem zeroCells_zero (z : Array Value) {n : Nat} (h : n * z.size = 0) : Builtin.zeroCells z n = #[] := by
 unfold Builtin.zeroCells; rw [h]; simp
theorem append_run_in {t tx e ty : TypeId} {i : TypeInfo} {z : Value} {zeros : Bool} {argTypes : Array TypeId} {x' : Value} {m : Nat} {news : Array Value} (F : AppFacts P t tx e i z zeros argTypes x' m w news)
  {a : Option Addr} {n c : Nat} (hc : n + m ≤ c) :
  (Builtin.append_ argTypes ty #[.slice a n c, x']).run P w =
   (match a with
    | some p => (storeCells (p.add (n * i.size)) news.toList).run P w |>.andThen fun _ w' => .ok (.slice a (n + m) c) w'
    | none => .ok (.slice a (n + m) c) w) := by
 obtain ⟨h0, h1, ht, htx, hi, hz, hsz, hzc, src⟩ := F
 have hsize : sizeT P e = some i.size := by simp [sizeT, hi]
 unfold Builtin.append_
 cases zeros
 ·simp only [Bool.false_eq_true, if_false] at src htx
  obtain ⟨hlen, hnew⟩ := src
  rcases htx with ⟨k, htx⟩ | htx
  all_goals
   simp only [h0, h1, Sem.run_bind, run_und ht, run_und htx, Result.andThen_ok, run_sizeOf' hsize, Sem.run_pure, List.getElem?_toArray, List.getElem?_cons_zero, List.getElem?_cons_succ, run_typeInfo' hi, Bool.false_eq_true, if_false, hlen, Bool.not_false, if_true]
   rw [if_pos hc]
   simp only [Sem.run_bind, hnew w rfl, Result.andThen_ok]
   cases a <;> simp
 ·simp only [if_true] at src htx
  obtain ⟨l, rfl, hl0, rfl, hl1, hl2, rfl⟩ := src
  obtain ⟨k, htx⟩ := htx
  simp only [h0, h1, run_und ht, run_und htx, run_sizeOf' hsize, List.getElem?_toArray, List.getElem?_cons_zero, List.getElem?_cons_succ, if_true, Bool.not_true, Bool.false_eq_true, if_false, asInt, asIntOf, Sem.run_bind, Sem.run_pure, Result.andThen_ok, wrap_small hl0 hl1, run_typeInfo' hi, Sem.run_ite]
  rw [if_neg (by omega)]
  rw [if_neg (by omega)]
  try simp only [Result.andThen_ok]
  rw [if_pos hc]
  by_cases h00 : l.toNat * i.size = 0
  ·simp only [h00, if_true, Sem.run_bind, Sem.run_pure, Result.andThen_ok]
   rw [zeroCells_zero _ (by rw [hzc]; exact h00)]
   cases a <;> simp
  ·simp only [h00, if_false, Sem.run_bind, Sem.run_pure, Result.andThen_ok, run_zeroValue' hi hz]
   cases a <;> simp
theorem append_run_grow {t tx e ty : TypeId} {i : TypeInfo} {z : Value} {zeros : Bool} {argTypes : Array TypeId} {x' : Value} {m : Nat} {news olds : Array Value} (F : AppFacts P t tx e i z zeros argTypes x' m w news)
  {a : Option Addr} {n c : Nat} (hc : c < n + m) (hroom : (n + m) * i.bytes ≤ room) (hn : n + m ≤ room) (hold : ∀ w' : World, w'.heap = w.heap → (Builtin.firstCells i.size n (.slice a n c)).run P w' = .ok olds w') :
  ∃ k, n + m ≤ k ∧ (Builtin.append_ argTypes ty #[.slice a n c, x']).run P w =
   .ok (.slice (some ⟨w.heap.size, 0, none⟩) (n + m) k) { w with heap := w.heap.push (.cells (olds ++ news ++ Builtin.zeroCells z.cells (k - (n + m))) e), drawn := w.drawn + 1 } := by
 obtain ⟨h0, h1, ht, htx, hi, hz, hsz, hzc, src⟩ := F
 have hsize : sizeT P e = some i.size := by simp [sizeT, hi]
 refine ⟨(Question.appendCap (n + m) c e).cut (w.tape w.drawn (.appendCap (n + m) c e)), by simp [Question.cut], ?_⟩
 have hg := growslice_fits hc (bytes := i.bytes) (by unfold room at hroom; omega)
 have hmax : ¬ ((n + m : Nat) : Int) > IntKind.i64.max := by
  unfold room at hn
  have : IntKind.i64.max = 9223372036854775807 := by decide
  omega
 have hgrow : ∀ (w1 : World), w1.heap = w.heap → (∀ w' : World, w'.heap = w.heap → (Builtin.firstCells i.size n (.slice a n c)).run P w' = .ok olds w') := fun _ _ => hold
 have hf : (Question.appendCap (n + m) c e).forced = false := rfl
 unfold Builtin.append_
 cases zeros
 ·simp only [Bool.false_eq_true, if_false] at src htx
  obtain ⟨hlen, hnew⟩ := src
  rcases htx with ⟨k, htx⟩ | htx
  all_goals
   simp only [h0, h1, Sem.run_bind, run_und ht, run_und htx, Result.andThen_ok, run_sizeOf' hsize, Sem.run_pure, List.getElem?_toArray, List.getElem?_cons_zero, List.getElem?_cons_succ, run_typeInfo' hi, Bool.false_eq_true, if_false, hlen, Bool.not_false, if_true]
   rw [if_neg (by omega)]
   simp only [Sem.run_bind, Sem.run_ite, run_typeInfo' hi, Result.andThen_ok]
   rw [if_neg (by rintro ⟨q, _⟩; exact hmax q), if_neg (by omega)]
   simp only [run_choose, hf, Bool.false_eq_true, if_false, Result.andThen_ok, run_askRoom, run_typeInfo' hi, Sem.run_bind, Sem.run_pure]
   rw [hold { w with drawn := w.drawn + 1 } rfl]
   simp only [Result.andThen_ok]
   rw [hnew { w with drawn := w.drawn + 1 } rfl]
   simp only [Result.andThen_ok, run_zeroValue' hi hz, newRow, Sem.run_bind, run_newObj, Sem.run_pure]
 ·simp only [if_true] at src htx
  obtain ⟨l, rfl, hl0, rfl, hl1, hl2, rfl⟩ := src
  obtain ⟨k, htx⟩ := htx
  simp only [h0, h1, run_und ht, run_und htx, run_sizeOf' hsize, List.getElem?_toArray, List.getElem?_cons_zero, List.getElem?_cons_succ, if_true, Bool.not_true, Bool.false_eq_true, if_false, asInt, asIntOf, Sem.run_bind, Sem.run_pure, Result.andThen_ok, wrap_small hl0 hl1, run_typeInfo' hi, Sem.run_ite]
  rw [if_neg (by omega)]
  rw [if_neg (by omega)]
  try simp only [Result.andThen_ok]
  rw [if_neg (by omega)]
  try simp only [Sem.run_bind, Sem.run_ite, run_typeInfo' hi, Result.andThen_ok]
  rw [if_neg (by rintro ⟨q, _⟩; exact hmax q), if_neg (by omega)]
  try simp only [run_choose, hf, Bool.false_eq_true, if_false, Result.andThen_ok, run_askRoom, run_typeInfo' hi, Sem.run_bind, Sem.run_pure]
  rw [hold { w with drawn := w.drawn + 1 } rfl]
  by_cases h00 : l.toNat * i.size = 0
  ·simp only [h00, if_true, Sem.run_bind, Sem.run_pure, Result.andThen_ok]
   rw [zeroCells_zero _ (by rw [hzc]; exact h00)]
   simp only [Result.andThen_ok, run_zeroValue' hi hz, newRow, Sem.run_bind, run_newObj, Sem.run_pure]
  ·simp only [h00, if_false, Sem.run_bind, Sem.run_pure, Result.andThen_ok, run_zeroValue' hi hz, newRow, run_newObj]
theorem slice_all {a : Option (Nat × Nat)} {n : Nat} {c : Cap} {s' : Value} (h : VRel ρ (.sl a n c) s') : ∃ a' cp, s' = .slice a' n cp ∧ n ≤ cp := by
 cases h
 ·exact ⟨_, _, rfl, Nat.le_refl _⟩
 ·exact ⟨_, _, rfl, by assumption⟩
 ·exact ⟨_, _, rfl, by assumption⟩
 ·exact ⟨_, _, rfl, Nat.le_refl _⟩
 ·exact ⟨_, _, rfl, by assumption⟩
 ·exact ⟨_, _, rfl, Nat.le_refl _⟩
 ·exact ⟨_, _, rfl, Nat.le_refl _⟩
theorem run_storeCells_nil (p : Addr) : (storeCells p [] 0).run P w = .ok () w := by simp [storeCells]
theorem firstCells_zero (sz : Nat) (a : Option Addr) (n c : Nat) (h : n = 0) (w' : World) : (Builtin.firstCells sz n (.slice a n c)).run P w' = .ok #[] w' := by
 subst h
 cases a <;> simp [Builtin.firstCells, loadCells, loadCellsFrom]
theorem append_sim (hr : Rel P n0 ρ H w) (hl : n0 ≤ lim) (hlim : lim ≤ H.next) (hf0 : H.next < H'.next → ρ H.next = none) {t tx e ty : TypeId} {i : TypeInfo} {zl : List AVal} {zeros : Bool} {argTypes : Array TypeId}
  (h0 : argTypes[0]? = some t) (h1 : argTypes[1]? = some tx) (ht : P.underlying t = some (.slice e))
  (htx : if zeros then (∃ k, P.underlying tx = some (.int k)) else ((∃ k, P.underlying tx = some (.slice k)) ∨ P.underlying tx = some .string))
  (hi : P.info? e = some i) (hz : zeroT P e = some zl) {s x : AVal} {s' x' : Value} (hs : VRel ρ s s') (hx : VRel ρ x x') (h : aappend lim H zl i.bytes zeros s x = some (v, H')) :
  Sim1 P n0 lim ρ H w (Builtin.append_ argTypes ty #[s', x']) v H' := by
 obtain ⟨i', z, hi', hzv, hzl, hzc, hzr, hz1⟩ := zeroT_inv ρ hz
 rw [hi] at hi'; simp at hi'; subst hi'
 simp only [aappend, Option.bind_eq_bind, Option.bind_eq_some_iff] at h
 obtain ⟨⟨m, new⟩, hsrc, h⟩ := h
 simp only at h
 split at h
 ·simp at h
 rename_i hcond
 simp only [Bool.or_eq_true, Bool.not_eq_true', decide_eq_true_eq, not_or, Bool.not_eq_false] at hcond
 obtain ⟨hall, hsz0⟩ := hcond
 have hall : new.all (·.one) = true := by simpa using hall
 have hsz : 0 < i.size := by omega
 split at h
 case h_2 => simp at h
 rename_i a n c
 obtain ⟨a', cp, rfl, hncp⟩ := slice_all hs
 have hnew : ∃ news : Array Value, new.length = m * zl.length ∧ LRel ρ new news.toList ∧ ((n + m) * i.bytes ≤ room ∨ m = 0 → AppFacts P t tx e i z zeros argTypes x' m w news) := by
  cases zeros
  ·simp only [Bool.false_eq_true, if_false] at hsrc htx
   obtain ⟨q1, q2, q3⟩ := source_sim (P := P) hr hx hsrc
   obtain ⟨news, q4, q5⟩ := q3 m (Nat.le_refl _)
   refine ⟨news, q2, by rw [List.take_of_length_le (by omega)] at q5; exact q5, fun _ => ⟨h0, h1, ht, by simpa using htx, hi, hzv, hsz, hzc, ?_⟩⟩
   rw [hzl] at q4
   simp only [Bool.false_eq_true, if_false]
   exact ⟨q1, q4⟩
  ·simp only [if_true] at hsrc htx
   split at hsrc
   ·rename_i l
    split at hsrc <;> simp at hsrc
    rename_i hl0
    obtain ⟨rfl, rfl⟩ := hsrc
    cases hx
    refine ⟨Builtin.zeroCells z.cells l.toNat, by simp [rep], ?_, fun hb => ⟨h0, h1, ht, by simpa using htx, hi, hzv, hsz, hzc, ?_⟩⟩
    ·rw [zeroCells_eq _ _ (by omega)]; exact rep_rel hzr _
    ·simp only [if_true]
     refine ⟨l, rfl, hl0.1, rfl, hl0.2, ?_, trivial⟩
     rcases hb with hb | hb
     ·have h2 : l.toNat * i.bytes ≤ room := Nat.le_trans (Nat.mul_le_mul_right _ (by omega)) hb
      have h3 : ((l.toNat * i.bytes : Nat) : Int) ≤ (room : Nat) := by exact_mod_cast h2
      rw [Int.natCast_mul, Int.toNat_of_nonneg hl0.1] at h3
      unfold room at h3; omega
     ·have : l = 0 := by omega
      subst this; simp
   ·simp at hsrc
 obtain ⟨news, hlen, hnr, hF⟩ := hnew
 split at h
 ·rename_i hm
  subst hm
  simp at h
  obtain ⟨rfl, rfl⟩ := h
  have F := hF (.inr rfl)
  have hnil : news.toList = [] := by
   have := hnr.1; rw [hlen] at this; simp at this
   exact List.eq_nil_of_length_eq_zero (by simpa using this.symm)
  refine .same hr (v' := .slice a' n cp) ?_ hs
  rw [append_run_in F (by omega : n + 0 ≤ cp)]
  cases a' with
  | none => rfl
  | some p => simp only [hnil, run_storeCells_nil, Result.andThen_ok]; rfl
 rename_i hm0
 split at h
 ·simp at h
 rename_i hroom
 have hroom1 : (n + m) * i.bytes ≤ room := by omega
 have hroom2 : n + m ≤ room := by omega
 have F := hF (.inl hroom1)
 have grow : ∀ (old : List AVal) (olds : Array Value), LRel ρ old olds.toList → old.length = n * zl.length → cp < n + m → (∀ w' : World, w'.heap = w.heap → (Builtin.firstCells i.size n (.slice a' n cp)).run P w' = .ok olds w') →
   ∀ {H1 : Heap}, Post P n0 lim ρ H w ρ H1 w → H1.next = H.next → v = .sl (some (H.next, 0)) (n + m) (.op zl.length 0) → H' = H1.push (.cells (old ++ new)) →
   Sim1 P n0 lim ρ H w (Builtin.append_ argTypes ty #[.slice a' n cp, x']) v H' := by
  intro old olds ho hol hcp hrun H1 hp hnx hv hH
  have hf : ρ H.next = none := hf0 (by rw [hH, Heap.next_push, hnx]; omega)
  obtain ⟨k, hk, he⟩ := append_run_grow (ty := ty) F hcp hroom1 hroom2 hrun
  have hc1 : (olds ++ news ++ Builtin.zeroCells z.cells (k - (n + m))).toList = (olds.toList ++ news.toList) ++ (List.replicate (k - (n + m)) z.cells.toList).flatten := by
   simp [zeroCells_eq _ _ (by omega : 0 < z.cells.size)]
  have hlo : olds.toList.length = n * zl.length := by rw [← ho.1, hol]
  have hln : news.toList.length = m * zl.length := by rw [← hnr.1, hlen]
  have hz1 : z.cells.toList.length = zl.length := hzr.1.symm
  have hcsz : (olds ++ news ++ Builtin.zeroCells z.cells (k - (n + m))).size = k * zl.length := by
   rw [← Array.length_toList, hc1]
   simp only [List.length_append, hlo, hln, List.length_flatten, List.map_replicate, List.sum_replicate_nat, hz1]
   rw [← Nat.add_mul, ← Nat.add_mul]; congr 1; omega
  have hr1 := hp.rel
  have halloc := hr1.alloc (lim := lim) (by omega) (by rw [hnx]; exact hf) (old ++ new) (olds ++ news ++ Builtin.zeroCells z.cells (k - (n + m))) e (0, 0)
   (by rw [hcsz, List.length_append, hol, hlen, ← Nat.add_mul]; exact Nat.mul_le_mul_right _ hk)
   (by
    rw [hc1, List.length_append, ho.1, hnr.1, ← List.length_append, List.take_left]
    exact LRel.append ho hnr)
   (fun i _ h => by simp at h)
   (w' := { w with heap := w.heap.push (.cells (olds ++ news ++ Builtin.zeroCells z.cells (k - (n + m))) e), drawn := w.drawn + 1 }) rfl ⟨rfl, rfl, rfl⟩
  refine ⟨_, _, _, he, hp.trans (Nat.le_refl _) (fun b g1 g2 => ?_) (hH ▸ halloc), ?_⟩
  ·rw [hH, Heap.next_push, hnx] at g2
   obtain rfl : b = H.next := by omega
   exact hf
  ·rw [hv, hnx]
   exact .slO (upd_same _ _ _) hk (by simp only [hcsz]; omega) (Nat.zero_le _)
 have inplace : ∀ (b o : Nat) (L : Loc) (cs : List AVal), a = some (b, o) → a' = some ⟨L.blk, L.d + o, none⟩ → ρ b = some L → H.cells b = some cs → lim ≤ b → o + (n + m) * zl.length ≤ cs.length → n + m ≤ cp → VRel ρ (.sl a (n + m) c) (.slice a' (n + m) cp) →
   v = .sl a (n + m) c → H' = H.set b (.cells (put cs (o + n * zl.length) new)) → Sim1 P n0 lim ρ H w (Builtin.append_ argTypes ty #[.slice a' n cp, x']) v H' := by
  intro b o L cs ha ha' hb hc hlb hle hcap hv' hv hH
  have hmul : (n + m) * zl.length = n * zl.length + m * zl.length := Nat.add_mul _ _ _
  obtain ⟨w', r1, r2⟩ := write_sim (P := P) (o := o + n * zl.length) hr hl hlb hb hc hnr hall (by omega)
  refine ⟨.slice a' (n + m) cp, w', ρ, ?_, hH ▸ r2, hv ▸ hv'⟩
  rw [append_run_in F hcap, ha']
  simp only [add_eq]
  rw [← hzl, show L.d + o + n * zl.length = L.d + (o + n * zl.length) by omega, r1]
  rfl
 split at h
 ·-- nil
  rename_i k
  split at h <;> simp at h
  rename_i hn0
  subst hn0
  obtain ⟨rfl, rfl⟩ := h
  cases hs
  exact grow [] #[] (LRel.nil ρ) (by simp) (by omega) (fun w' _ => firstCells_zero _ _ _ _ rfl w') (.refl hr) rfl (by simp) (by simp)
 ·-- a row whose capacity is known
  rename_i b o k
  simp only [Option.bind_eq_some_iff] at h
  obtain ⟨cs, hc, h⟩ := h
  obtain ⟨L, hb, hsx⟩ : ∃ L, ρ b = some L ∧ (a' = some ⟨L.blk, L.d + o, none⟩ ∧ cp = k ∨ n = 0 ∧ k = 0 ∧ cp = 0) := by
   cases hs with
   | slX hb hnk => exact ⟨_, hb, .inl ⟨rfl, rfl⟩⟩
   | slG hb => exact ⟨_, hb, .inr ⟨rfl, rfl, rfl⟩⟩
  split at h
  ·rename_i hk
   obtain ⟨rfl, rfl⟩ : a' = some ⟨L.blk, L.d + o, none⟩ ∧ cp = k := by
    rcases hsx with q | ⟨rfl, rfl, rfl⟩
    ·exact q
    ·exact absurd hm0 (by omega)
   split at h <;> simp at h
   rename_i hcond
   obtain ⟨rfl, rfl⟩ := h
   exact inplace b o L cs rfl rfl hb hc hcond.1 hcond.2 hk (.slX hb hk) rfl rfl
  ·rename_i hk
   simp only [Option.bind_eq_some_iff] at h
   obtain ⟨old, hcut, h⟩ := h
   split at h <;> simp at h
   rename_i hcond
   obtain ⟨rfl, rfl⟩ := h
   obtain ⟨hle, rfl⟩ := cut_some hcut
   obtain ⟨cc, e', fr, g1, g2, g3, g4, g5⟩ := hr.cells hb hc
   refine grow _ ((cc.toList.drop (L.d + o)).take (n * zl.length)).toArray (by simpa using g5.drop_take hle) (by simp; omega) (by omega) (fun w' hw' => ?_) (.refl hr) rfl rfl rfl
   rcases hsx with ⟨rfl, rfl⟩ | ⟨rfl, rfl, rfl⟩
   ·simp only [Builtin.firstCells]
    rw [← hzl]
    exact run_loadCells_blk (by rw [hw']; exact g1) (by omega)
   ·rw [firstCells_zero _ _ _ _ rfl]
    simp
 ·-- a row that may have room
  rename_i b o esz kn
  simp only [Option.bind_eq_some_iff] at h
  obtain ⟨cs, hc, h⟩ := h
  split at h
  case isFalse => simp at h
  rename_i hcond
  obtain ⟨hlb, rfl⟩ := hcond
  have hmul : (n + m) * zl.length = n * zl.length + m * zl.length := Nat.add_mul _ _ _
  obtain ⟨L, hb⟩ : ∃ L, ρ b = some L := by cases hs with | slO h1 _ _ _ => exact ⟨_, h1⟩ | slE h1 _ => exact ⟨_, h1⟩
  obtain ⟨cc, e', fr, g1, g2, g3, g4, g5⟩ := hr.cells hb hc
  have hpos : 0 < m * zl.length := Nat.mul_pos (by omega) (by omega)
  split at h
  ·rename_i hle
   simp at h
   obtain ⟨rfl, rfl⟩ := h
   cases hs with
   | slO hb' hn' hcz hkn =>
    rename_i L'
    rw [hb] at hb'; simp at hb'; subst hb'
    have hcap : n + m ≤ cp := by
     rcases Nat.lt_or_ge cp (n + m) with q | q
     ·have : (cp + 1) * zl.length ≤ (n + m) * zl.length := Nat.mul_le_mul_right _ q
      have e1 : (cp + 1) * zl.length = cp * zl.length + zl.length := Nat.succ_mul _ _
      omega
     ·exact q
    exact inplace b o L cs rfl rfl hb hc hlb hle hcap (.slO hb hcap hcz hkn) rfl rfl
   | slE hb' hcz =>
    rename_i a1 L'
    rw [hb] at hb'; simp at hb'; subst hb'
    exact (by exfalso; omega)
  ·rename_i hnle
   split at h <;> simp at h
   rename_i hend
   obtain ⟨hend, hone⟩ := hend
   obtain ⟨rfl, rfl⟩ := h
   by_cases hcap : n + m ≤ cp
   ·-- there is room: the row grows where it lies
    cases hs with
    | slO hb' hn' hcz hkn =>
     rename_i L'
     rw [hb] at hb'; simp at hb'; subst hb'
     have hf : ρ H.next = none := hf0 (Nat.lt_succ_self _)
     have hcl : cc.toList.length = cc.size := by simp
     have hfit : L.d + o + (n + m) * zl.length ≤ cc.size := by
      have : (n + m) * zl.length ≤ cp * zl.length := Nat.mul_le_mul_right _ hcap
      omega
     have hnl : news.toList.length = m * zl.length := by rw [← hnr.1, hlen]
     obtain ⟨w', c', r1, r2, r3, r4, r6, r5⟩ := run_storeCells_blk (P := P) (blk := L.blk) (o := L.d + (o + n * zl.length)) news.toList 0 w cc g1 (by rw [hnl]; omega) (fun k _ hk => g3 (by omega) k (by rw [hnl] at hk; omega)) (hnr.one hall)
     simp only [Nat.add_zero] at r5
     have hns : news.size = m * zl.length := by rw [← Array.length_toList]; exact hnl
     have hc's : c'.size = cc.size := by rw [← Array.length_toList, r5]; simp; omega
     have hcs' : (cs.drop o ++ new).length = (n + m) * zl.length := by rw [List.length_append, List.length_drop, hlen]; omega
     refine ⟨.slice (some ⟨L.blk, L.d + o, none⟩) (n + m) cp, w', _, ?_, hr.regrow hlim hf hl hlb hb hc g1 r2 r3 r4 hc's (o := o) (by rw [hcs']; omega) ?_ r6, ?_⟩
     ·rw [append_run_in F hcap]
      simp only [add_eq]
      rw [← hzl, show L.d + o + n * zl.length = L.d + (o + n * zl.length) by omega, r1]
      rfl
     ·have e1 : (c'.toList.drop (L.d + o)).take (cs.drop o ++ new).length = ((cc.toList.drop (L.d + o)).take (n * zl.length)) ++ news.toList := by
       rw [r5, hcs']
       apply List.ext_getElem?
       intro j
       simp only [List.getElem?_take, List.getElem?_drop, List.getElem?_append, List.length_append, List.length_take, List.length_drop, hcl, hnl]
       by_cases j1 : j < n * zl.length
       ·have a1 : j < (n + m) * zl.length := by omega
        have a2 : L.d + o + j < min (L.d + (o + n * zl.length)) cc.size + m * zl.length := by omega
        have a3 : L.d + o + j < min (L.d + (o + n * zl.length)) cc.size := by omega
        have a4 : L.d + o + j < L.d + (o + n * zl.length) := by omega
        have a5 : j < min (n * zl.length) (cc.size - (L.d + o)) := by omega
        simp [j1, a1, a2, a3, a4, a5]
       ·by_cases j2 : j < (n + m) * zl.length
        ·have a2 : L.d + o + j < min (L.d + (o + n * zl.length)) cc.size + m * zl.length := by omega
         have a3 : ¬ L.d + o + j < min (L.d + (o + n * zl.length)) cc.size := by omega
         have a5 : ¬ j < min (n * zl.length) (cc.size - (L.d + o)) := by omega
         have e1 : L.d + o + j - min (L.d + (o + n * zl.length)) cc.size = j - n * zl.length := by omega
         have e2 : j - min (n * zl.length) (cc.size - (L.d + o)) = j - n * zl.length := by omega
         simp [j2, a2, a3, a5, e1, e2]
        ·have a5 : ¬ j < min (n * zl.length) (cc.size - (L.d + o)) := by omega
         have a6 : ¬ j - min (n * zl.length) (cc.size - (L.d + o)) < m * zl.length := by omega
         have : news.toList[j - min (n * zl.length) (cc.size - (L.d + o))]? = none := List.getElem?_eq_none (by omega)
         rw [if_neg j2, if_neg a5, this]
      rw [e1]
      refine LRel.append ?_ hnr
      have := g5.drop_take (o := o) (n := n * zl.length) (by omega)
      rwa [List.take_of_length_le (by simp; omega)] at this
     ·exact .slO (upd_same _ _ _) hcap (by simp only; omega) (Nat.zero_le _)
    | slE hb' hcz => exact (by exfalso; omega)
   ·-- there is none: a new row
    have hk := hr.kill (n0 := n0) (lim := lim) (w := w) hlb hc
    have hfirst : ∃ olds : Array Value, LRel ρ (cs.drop o) olds.toList ∧ ∀ w' : World, w'.heap = w.heap → (Builtin.firstCells i.size n (.slice a' n cp)).run P w' = .ok olds w' := by
     cases hs with
     | slO hb' hn' hcz _ =>
      rename_i L'
      rw [hb] at hb'; simp at hb'; subst hb'
      refine ⟨((cc.toList.drop (L.d + o)).take (n * zl.length)).toArray, ?_, fun w' hw' => ?_⟩
      ·have := g5.drop_take (o := o) (n := n * zl.length) (by omega)
       rw [List.take_of_length_le (by simp; omega)] at this
       simpa using this
      ·simp only [Builtin.firstCells]
       rw [← hzl]
       exact run_loadCells_blk (by rw [hw']; exact g1) (by omega)
     | slE hb' hcz =>
      refine ⟨#[], ?_, fun w' _ => firstCells_zero _ _ _ _ rfl w'⟩
      rw [List.drop_eq_nil_of_le (by omega)]; exact LRel.nil ρ
    obtain ⟨olds, ho, hrun⟩ := hfirst
    exact grow _ olds ho (by simp; omega) (by omega) hrun hk rfl rfl rfl
 ·simp at h
end
end Go.Ahs
