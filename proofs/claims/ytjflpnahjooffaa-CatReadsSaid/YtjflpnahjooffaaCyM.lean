/- What the functions that range over maps are known to come to. -/
import Derived.Test.YtjflpnahjooffaaCyAp
import Derived.Test.YtjflpnahjooffaaChsP5
import Derived.Test.YtjflpnahjooffaaChsA22
import Derived.Test.YtjflpnahjooffaaChsA20
import Derived.Test.YtjflpnahjooffaaChsP6
import Derived.Test.YtjflpnahjooffaaChecked
set_option maxRecDepth 100000
set_option linter.unusedSimpArgs false
set_option linter.unusedVariables false
namespace Go.Proofs.Ytjflpnahjooffaa.catm
open Go.Ahs
def slotOf : AVal → Option Int
 | .agg [.int .u8 a, .int .u8 _] => some a
 | _ => none
def tokLs : List Leaf := [.int .u8, .int .u8, .int .u8, .int .u8, .int .u8, .int .u8, .int .u8, .int .u8]
def isTok : AVal → Bool
 | .agg cs => cs.length == 8 && cs.all (·.one)
 | _ => false
def entOK (e : AVal × AVal) : Bool := (slotOf e.2).isSome && keyEq true tokLs e.1 e.1 == some true && isTok e.1
def apartE : List (AVal × AVal) → Bool
 | [] => true
 | e :: es => es.all (fun f => keyEq true tokLs e.1 f.1 == some false && keyEq true tokLs f.1 e.1 == some false) && apartE es
def esOK (es : List (AVal × AVal)) : Bool := es.all entOK && apartE es
def g73 (_ : Nat) (args : List AVal) (H : Heap) : Option (AVal × Heap) :=
 match args with
 | [.ptr (some (c, 0)), .int .u8 s] =>
  match H.cells c with
  | some cs => match cs[16]? with
   | some m => match mapEs H m with
    | some es => if (esOK es && decide (es.length < 1000)) = true then some (.int .i64 (es.countP fun e => slotOf e.2 == some s), pushDead es.length H) else none
    | none => none
   | none => none
  | none => none
 | _ => none
def g74 (lim : Nat) (args : List AVal) (H : Heap) : Option (AVal × Heap) :=
 match args with
 | [.map (some m), .fn 75 [] [p]] =>
  match aload H none p, H.get m with
  | some (.int .u8 s), some (.map es clock) =>
   if lim ≤ m ∧ esOK es = true then some (.tup [], pushDead (4 * es.length) (H.set m (.map (es.filter fun e => !(slotOf e.2 == some s)) clock))) else none
  | _, _ => none
 | _ => none
theorem i64_succ {i : Nat} (h : i < 9223372036854775807) : IntKind.i64.wrap ((i : Int) + 1) = ((i + 1 : Nat) : Int) := wrap_id (by show (-9223372036854775808 : Int) ≤ _; omega) (by show _ ≤ (9223372036854775807 : Int); omega)
section
variable {R : Caller} {RP : CallerP} {lim0 lim n : Nat} {H : Heap}
theorem reg {ops : List AOper} {s : PSt} {K : KP} {s1 : St} (h : execOps R lim ops ⟨s.tmps, s.H⟩ = some s1) (hk : K .norm ⟨s1.tmps, s1.H, s.it⟩) : execP R RP lim0 lim n (.region ops) s K := .inl ⟨s1, h, hk⟩
def body73 : ACode := match f73.body with
 | .seq _ (.seq _ (.seq (.seq _ (.block _ (.loop b))) _)) => b
 | _ => .skip
set_option maxHeartbeats 4000000 in
theorem many_loop {K : KP} {c : AVal} {r : Nat} {mb : Option Nat} {s : Int} : ∀ (m : Nat) (left : List (AVal × AVal)) (cnt : Nat) (H : Heap) (T : List AVal) (cur : Option (AVal × AVal)), left.length < m → lim ≤ H.next → cnt + left.length < 9223372036854775807 → (left.all entOK) = true →
  (∃ t4 t7 t13 t14 t15 t16 t17 t18 t19 t20 t21 t22 t23 t8 t9 t10 t11 t6 t3 t2 : AVal, T = [c, .int .u8 s, t2, t3, t4, .int .i64 (cnt : Int), t6, t7, t8, t9, t10, t11, .itr r, t13, t14, t15, t16, t17, t18, t19, t20, t21, t22, t23]) →
  (∀ T' H' it', (∃ t4 t7 t13 t14 t15 t16 t17 t18 t19 t20 t21 t22 t23 t8 t9 t10 t11 t6 t3 t2 : AVal, T' = [c, .int .u8 s, t2, t3, t4, .int .i64 ((cnt + left.countP fun e => slotOf e.2 == some s : Nat) : Int), t6, t7, t8, t9, t10, t11, .itr r, t13, t14, t15, t16, t17, t18, t19, t20, t21, t22, t23]) →
   H'.next = H.next + left.length → (∀ b, b < H.next → H'.get b = H.get b) → K (.exit 0) ⟨T', H', it'⟩) →
  loopP (execP R RP lim0 lim n body73) m ⟨T, H, some ⟨r, mb, left, cur⟩⟩ K
 | 0, left, cnt, H, T, cur, h1, _, _, _, _, _ => by omega
 | m + 1, left, cnt, H, T, cur, h1, hl, hcnt, hok, ⟨t4, t7, t13, t14, t15, t16, t17, t18, t19, t20, t21, t22, t23, t8, t9, t10, t11, t6, t3, t2, hT⟩, hK => by
  subst hT
  unfold loopP
  show execP R RP lim0 lim n (.seq (.region _) (.seq (.cond _ .skip (.exit 0)) (.block 1 _))) _ _
  refine .inr ⟨rfl, rfl, _, rfl, rfl, ?_, ?_⟩
  ·intro hleft
   simp only at hleft
   subst hleft
   refine ⟨_, rfl, ?_⟩
   refine ⟨false, rfl, fun e => by simp at e, fun _ => ?_⟩
   exact hK _ _ _ ⟨_, _, _, _, _, _, _, _, _, _, _, _, _, _, _, _, _, _, _, _, rfl⟩ rfl (fun _ _ => rfl)
  ·intro k v rest hp
   simp only at hp
   refine ⟨_, rfl, ?_⟩
   refine ⟨true, rfl, fun _ => ?_, fun e => by simp at e⟩
   have hmem : (k, v) ∈ left := hp.mem_iff.2 (by simp)
   have hent := List.all_eq_true.1 hok _ hmem
   obtain ⟨a, b, rfl⟩ : ∃ a b : Int, v = .agg [.int .u8 a, .int .u8 b] := by
    simp only [entOK, Bool.and_eq_true] at hent
    have h2 := hent.1.1
    unfold slotOf at h2
    split at h2
    ·exact ⟨_, _, rfl⟩
    ·simp at h2
   have hlen : left.length = rest.length + 1 := by rw [hp.length_eq]; rfl
   have hcount : (left.countP fun e => slotOf e.2 == some s) = (rest.countP fun e => slotOf e.2 == some s) + if a = s then 1 else 0 := by
    rw [hp.countP_eq, List.countP_cons]
    simp [slotOf]
   have hokr : (rest.all entOK) = true := by
    rw [List.all_eq_true] at hok ⊢
    exact fun e he => hok e (hp.mem_iff.2 (by simp [he]))
   refine execP_skip ?_
   refine execP_block (execP_seq (execP_reg ?_))
   refine opsP_entry rfl rfl rfl rfl rfl ?_
   refine opsP_v rfl rfl rfl rfl _ rfl rfl ?_
   refine opsP_1 rfl rfl rfl rfl rfl ?_
   refine opsP_st rfl rfl rfl rfl (astore_new (cs := [(.int .u8 0), (.int .u8 0)]) (x := .agg [.int .u8 a, .int .u8 b]) hl rfl rfl rfl) (opsP_nil ?_)
   refine execP_seq (execP_reg ?_)
   refine opsP_v rfl rfl rfl rfl _ rfl rfl ?_
   refine opsP_v rfl rfl rfl rfl _ rfl (aload_new1 H _ _) ?_
   refine opsP_v rfl rfl rfl rfl _ rfl rfl ?_
   refine opsP_v rfl rfl rfl rfl _ rfl (abin_eql _ _ _) (opsP_nil ?_)
   by_cases he : a = s
   ·refine execP_cond true (by show AVal.bool _ = _; rw [he]; simp) (fun _ => ?_) (fun e => by simp at e)
    refine execP_reg ?_
    refine opsP_v rfl rfl rfl rfl _ rfl rfl ?_
    refine opsP_v (v := .int .i64 (IntKind.i64.wrap ((cnt : Int) + 1))) rfl rfl rfl rfl _ rfl (abin_add _ _ _) ?_
    rw [i64_succ (show cnt < 9223372036854775807 by omega)]
    refine opsP_v rfl rfl rfl rfl _ rfl rfl (opsP_nil ?_)
    refine many_loop m rest (cnt + 1) (H.push (.cells [.int .u8 a, .int .u8 b])) _ _ (by omega) (by rw [Heap.next_push]; omega) (by omega) hokr ⟨_, _, _, _, _, _, _, _, _, _, _, _, _, _, _, _, _, _, _, _, rfl⟩ ?_
    intro T' H' it' hT' hn hg
    rw [Heap.next_push] at hn
    refine hK T' H' it' ?_ (by omega) (fun b' hb => by rw [hg b' (by rw [Heap.next_push]; omega), Heap.get_push_old _ _ _ (by omega)])
    rw [hcount, if_pos he, show cnt + ((rest.countP fun e => slotOf e.2 == some s) + 1) = cnt + 1 + (rest.countP fun e => slotOf e.2 == some s) by omega]
    exact hT'
   ·refine execP_cond false (by show AVal.bool _ = _; simp [he]) (fun e => by simp at e) (fun _ => ?_)
    refine execP_skip ?_
    refine many_loop m rest cnt (H.push (.cells [.int .u8 a, .int .u8 b])) _ _ (by omega) (by rw [Heap.next_push]; omega) (by omega) hokr ⟨_, _, _, _, _, _, _, _, _, _, _, _, _, _, _, _, _, _, _, _, rfl⟩ ?_
    intro T' H' it' hT' hn hg
    rw [Heap.next_push] at hn
    refine hK T' H' it' ?_ (by omega) (fun b' hb => by rw [hg b' (by rw [Heap.next_push]; omega), Heap.get_push_old _ _ _ (by omega)])
    rw [hcount, if_neg he, Nat.add_zero]
    exact hT'
end
theorem esOK_iff {es : List (AVal × AVal)} (h : esOK es = true) : es.all entOK = true ∧ apartE es = true := by
 unfold esOK at h; simpa using h
theorem mapEs_some {H : Heap} {m : AVal} {es : List (AVal × AVal)} (h : mapEs H m = some es) : (m = .map none ∧ es = []) ∨ ∃ b clock, m = .map (some b) ∧ H.get b = some (.map es clock) ∧ b < H.next := by
 unfold mapEs at h
 split at h
 ·simp at h; exact .inl ⟨rfl, h⟩
 ·rename_i b
  split at h
  ·rename_i es' cl hg
   simp at h; subst h
   refine .inr ⟨b, cl, rfl, hg, ?_⟩
   rcases Nat.lt_or_ge b H.next with g | g
   ·exact g
   ·rw [Heap.get_ge _ _ g] at hg; simp at hg
  ·simp at h
 ·simp at h
def dp : List (Nat × AFunc) := [(73, f73), (74, f74)]
theorem dpOK : DpOK Try.prog fun f => dp.lookup f :=
 dp_ok (l := dp) ⟨⟨c73, by kernel_rfl⟩, ⟨c74, by kernel_rfl⟩, trivial⟩
set_option maxHeartbeats 4000000 in
theorem many_ok : PrimOK Try.prog 73 g73 := by
 refine PrimOK.drawn Try.checked.mixed ap_ok dpOK (f := 73) (af := f73) rfl ?_ ?_
 ·intro lim args H v H' hl h
  unfold g73 at h
  split at h <;> try (simp at h; done)
  split at h <;> try (simp at h; done)
  split at h <;> try (simp at h; done)
  split at h <;> try (simp at h; done)
  split at h <;> try (simp at h; done)
  simp at h
  obtain ⟨_, rfl⟩ := h
  exact ⟨by rw [pushDead_next]; omega, fun b hb => pushDead_old _ (by omega)⟩
 ·intro lim args H v H' hl h
  unfold g73 at h
  split at h <;> try (simp at h; done)
  rename_i c s
  split at h <;> try (simp at h; done)
  rename_i cs hcs
  split at h <;> try (simp at h; done)
  rename_i m hm
  split at h <;> try (simp at h; done)
  rename_i es hes
  split at h <;> try (simp at h; done)
  rename_i hok
  simp only [Option.some.injEq, Prod.mk.injEq] at h
  obtain ⟨rfl, rfl⟩ := h
  simp only [Bool.and_eq_true, decide_eq_true_eq] at hok
  refine ⟨es.length + 2, .inr ⟨73, f73, rfl, rfl, ?_⟩⟩
  refine execP_seq (execP_reg (opsP_v rfl rfl rfl rfl _ rfl rfl (opsP_nil ?_)))
  refine execP_seq (execP_reg (opsP_v rfl rfl rfl rfl _ rfl rfl (opsP_nil ?_)))
  refine execP_seq (execP_seq (execP_reg ?_))
  refine opsP_v rfl rfl rfl rfl _ rfl rfl ?_
  refine opsP_v rfl rfl rfl rfl _ rfl rfl ?_
  refine opsP_v rfl rfl rfl rfl _ rfl rfl ?_
  refine opsP_v (v := m) rfl rfl rfl rfl _ rfl ?_ ?_
  ·show aload H none (.ptr (some (c, 16))) = some m
   simp [aload, hcs, hm]
  refine opsP_range rfl rfl rfl rfl es (mapEs_some hes) fun r mb hmb => opsP_nil ?_
  refine execP_block ?_
  refine many_loop (n := es.length + 1) (s := s) (es.length + 1) es 0 H _ _ (by omega) (Nat.le_refl _) (by omega) (esOK_iff hok.1).1 ⟨_, _, _, _, _, _, _, _, _, _, _, _, _, _, _, _, _, _, _, _, rfl⟩ ?_
  intro T' H1 it' hT' hn hg
  obtain ⟨t4, t7, t13, t14, t15, t16, t17, t18, t19, t20, t21, t22, t23, t8, t9, t10, t11, t6, t3, t2, hT'⟩ := hT'
  simp only [Nat.zero_add] at hT'
  subst hT'
  refine execP_seq (execP_reg ?_)
  refine opsP_v rfl rfl rfl rfl _ rfl rfl ?_
  refine opsP_v rfl rfl rfl rfl _ rfl rfl (opsP_nil ?_)
  refine ⟨fun id => by simp, _, rfl, ?_, forget_dead hn hg⟩
  rfl
theorem run75 {n lim : Nat} {H : Heap} {cs : List AVal} {a b s : Int} {pb po : Nat} {c : List AVal} (hp : H.get pb = some (.cells c)) (hs : c[po]? = some (.int .u8 s)) (hcs : cs.all (·.one) = true) :
  Ahs.runT ap (n + 1) lim (.fn 75) [.agg cs, .agg [.int .u8 a, .int .u8 b], .ptr (some (pb, po))] H = some (.bool (a == s), (H.push (.cells cs)).push (.cells [.int .u8 a, .int .u8 b])) := by
 have h75 : ap 75 = some (.code f75) := rfl
 have hl := Heap.get_lt hp
 have hc : ((H.push (.cells cs)).push (.cells [.int .u8 a, .int .u8 b])).cells pb = some c := Heap.cells_eq.2 (by rw [Heap.get_push_old _ _ _ (by rw [Heap.next_push]; omega), Heap.get_push_old _ _ _ (by omega)]; exact hp)
 have h1 : aload ((H.push (.cells cs)).push (.cells [.int .u8 a, .int .u8 b])) none (.ptr (some ((H.push (.cells cs)).next, 0))) = some (.int .u8 a) := aload_new1 _ _ _
 have h2 : aload ((H.push (.cells cs)).push (.cells [.int .u8 a, .int .u8 b])) none (.ptr (some (pb, po))) = some (.int .u8 s) := by rw [aload_one hc, hs]
 refine x_fun (af := f75) (s := ⟨[.agg cs, .agg [.int .u8 a, .int .u8 b], .ptr (some (pb, po)), .ptr (some (H.next, 0)), .ptr (some (H.next + 1, 0)), .bool (a == s), .ptr (some (H.next + 1, 0)), .int .u8 a, .int .u8 s, .bool (a == s)], (H.push (.cells cs)).push (.cells [.int .u8 a, .int .u8 b])⟩) h75 ?_ rfl
 refine x_seq (x_1 rfl rfl rfl (step_box rfl hcs) (x_1 rfl rfl rfl (step_box rfl rfl) (x_v rfl rfl rfl _ rfl rfl x_nil))) ?_
 refine x_seq (x_v rfl rfl rfl _ rfl rfl (x_v rfl rfl rfl _ rfl h1 (x_v rfl rfl rfl _ rfl h2 (x_v rfl rfl rfl _ rfl (abin_eql _ _ _) (x_v rfl rfl rfl _ rfl rfl x_nil))))) ?_
 rfl
def Apart (e f : AVal × AVal) : Prop := keyEq true tokLs e.1 f.1 = some false ∧ keyEq true tokLs f.1 e.1 = some false
theorem Apart.symm {e f : AVal × AVal} (h : Apart e f) : Apart f e := ⟨h.2, h.1⟩
theorem apart_of : ∀ {es : List (AVal × AVal)}, apartE es = true → es.Pairwise Apart
 | [], _ => List.Pairwise.nil
 | e :: es, h => by
  simp only [apartE, Bool.and_eq_true, List.all_eq_true, beq_iff_eq] at h
  exact List.Pairwise.cons (fun f hf => h.1 f hf) (apart_of h.2)
theorem pair_in : ∀ {es : List (AVal × AVal)}, es.Pairwise Apart → ∀ {a b : AVal × AVal}, a ∈ es → b ∈ es → a ≠ b → Apart a b
 | [], _, a, b, ha, _, _ => by simp at ha
 | e :: es, h, a, b, ha, hb, hne => by
  rw [List.pairwise_cons] at h
  rcases List.mem_cons.1 ha with rfl | ha'
  ·rcases List.mem_cons.1 hb with rfl | hb'
   ·exact absurd rfl hne
   ·exact h.1 b hb'
  ·rcases List.mem_cons.1 hb with rfl | hb'
   ·exact (h.1 a ha').symm
   ·exact pair_in h.2 ha' hb' hne
theorem ent_inv {e : AVal × AVal} (h : entOK e = true) : ∃ cs a b, e.1 = .agg cs ∧ cs.length = 8 ∧ cs.all (·.one) = true ∧ e.2 = .agg [.int .u8 a, .int .u8 b] ∧ keyEq true tokLs e.1 e.1 = some true := by
 obtain ⟨k, v⟩ := e
 simp only [entOK, Bool.and_eq_true, beq_iff_eq] at h
 obtain ⟨⟨h1, h2⟩, h3⟩ := h
 unfold isTok at h3
 split at h3
 case h_2 => simp at h3
 rename_i cs
 simp only [Bool.and_eq_true, beq_iff_eq] at h3
 unfold slotOf at h1
 split at h1
 case h_2 => simp at h1
 rename_i a b
 exact ⟨cs, a, b, rfl, h3.1, h3.2, rfl, h2⟩
def slotIs (s : Int) (e : AVal × AVal) : Bool := slotOf e.2 == some s
structure DelInv (es cur left : List (AVal × AVal)) (s : Int) : Prop where
 fin : cur.filter (fun e => !slotIs s e) = es.filter fun e => !slotIs s e
 rest : ∀ e ∈ cur, slotIs s e = true → e ∈ left
 sub : ∀ e ∈ left, e ∈ es
 cur : ∀ e ∈ cur, e ∈ es
 pw : left.Pairwise Apart
theorem DelInv.done {es cur : List (AVal × AVal)} {s : Int} (h : DelInv es cur [] s) : cur = es.filter fun e => !slotIs s e := by
 rw [← h.fin]
 symm
 rw [List.filter_eq_self]
 intro e he
 cases hs : slotIs s e with
 | false => rfl
 | true => exact absurd (h.rest e he hs) (by simp)
section
variable {es cur left rest : List (AVal × AVal)} {s : Int} {k v : AVal}
theorem DelInv.keep (h : DelInv es cur left s) (hp : left.Perm ((k, v) :: rest)) (hs : slotIs s (k, v) = false) : DelInv es cur rest s where
 fin := h.fin
 rest e he hse := by
  rcases List.mem_cons.1 (hp.mem_iff.1 (h.rest e he hse)) with rfl | g
  ·rw [hs] at hse; simp at hse
  ·exact g
 sub e he := h.sub e (hp.mem_iff.2 (List.mem_cons_of_mem _ he))
 cur := h.cur
 pw := (List.pairwise_cons.1 ((hp.pairwise_iff fun h => h.symm).1 h.pw)).2
theorem DelInv.apart (h : DelInv es cur left s) (hp : left.Perm ((k, v) :: rest)) : ∀ e ∈ rest, isKey true tokLs k e = false := by
 intro e he
 have := (List.pairwise_cons.1 ((hp.pairwise_iff fun h => h.symm).1 h.pw)).1 e he
 unfold isKey
 rw [this.1]; rfl
theorem DelInv.del (h : DelInv es cur left s) (hes : es.Pairwise Apart) (hok : ∀ e ∈ es, entOK e = true) (hp : left.Perm ((k, v) :: rest)) (hs : slotIs s (k, v) = true) : keyOK true tokLs k cur = true ∧ DelInv es (mdel true tokLs k cur) rest s := by
 have hin : (k, v) ∈ es := h.sub _ (hp.mem_iff.2 (by simp))
 obtain ⟨cs, a, b, _, _, _, _, hkk⟩ := ent_inv (hok _ hin)
 have one : ∀ e ∈ es, e = (k, v) ∨ keyEq true tokLs k e.1 = some false := by
  intro e he
  by_cases hne : (k, v) = e
  ·exact .inl hne.symm
  ·exact .inr (pair_in hes hin he hne).1
 refine ⟨?_, ?_⟩
 ·unfold keyOK
  simp only [Bool.and_eq_true, beq_iff_eq, List.all_eq_true]
  refine ⟨hkk, fun e he => ?_⟩
  rcases one e (h.cur e he) with rfl | g
  ·rw [hkk]; rfl
  ·rw [g]; rfl
 ·refine ⟨?_, ?_, fun e he => h.sub e (hp.mem_iff.2 (List.mem_cons_of_mem _ he)), fun e he => h.cur e (List.mem_filter.1 he).1, (List.pairwise_cons.1 ((hp.pairwise_iff fun h => h.symm).1 h.pw)).2⟩
  ·rw [← h.fin]
   unfold mdel
   rw [List.filter_filter]
   refine List.filter_congr fun e he => ?_
   cases hse : slotIs s e with
   | true => rfl
   | false =>
    rcases one e (h.cur e he) with rfl | g
    ·rw [hs] at hse; simp at hse
    ·simp [isKey, g]
  ·intro e he hse
   obtain ⟨h1, h2⟩ := List.mem_filter.1 he
   rcases List.mem_cons.1 (hp.mem_iff.1 (h.rest e h1 hse)) with rfl | g
   ·simp [isKey, hkk] at h2
   ·exact g
end
def body74 : ACode := match f74.body with
 | .seq _ (.block _ (.loop b)) => b
 | _ => .skip
def Sh74 (m : Nat) (p : AVal) (r : Nat) (T : List AVal) : Prop := ∃ t2 t3 t4 t5 t6 t8 t9 t10 t11 t12 t13 t14 t15 t16 t17 t18 : AVal, T = [.map (some m), .fn 75 [] [p], t2, t3, t4, t5, t6, .itr r, t8, t9, t10, t11, t12, t13, t14, t15, t16, t17, t18]
def Sh74b (m : Nat) (p : AVal) (r b : Nat) (ans : AVal) (T : List AVal) : Prop := ∃ t2 t3 t6 t8 t9 t10 t11 t12 t13 t14 t15 t17 t18 : AVal, T = [.map (some m), .fn 75 [] [p], t2, t3, .ptr (some (b, 0)), .ptr (some (b + 1, 0)), t6, .itr r, t8, t9, t10, t11, t12, t13, t14, t15, ans, t17, t18]
def z8 : List AVal := [.int .u8 0, .int .u8 0, .int .u8 0, .int .u8 0, .int .u8 0, .int .u8 0, .int .u8 0, .int .u8 0]
def z2 : List AVal := [.int .u8 0, .int .u8 0]
theorem boxes (lim : Nat) (H : Heap) (hl : lim ≤ H.next) {cs vs : List AVal} (h8 : cs.length = 8) (h2 : vs.length = 2) (hc : cs.all (·.one) = true) (hv : vs.all (·.one) = true) :
  ∃ H2 H3, astore lim ((H.push (.cells z8)).push (.cells z2)) 8 (.ptr (some (H.next, 0))) (.agg cs) = some H2 ∧ astore lim H2 2 (.ptr (some (H.next + 1, 0))) (.agg vs) = some H3 ∧
   H2.next = H.next + 2 ∧ H3.next = H.next + 2 ∧ H3.cells H.next = some cs ∧ H3.cells (H.next + 1) = some vs ∧ ∀ b, b < H.next → H3.get b = H.get b := by
 have c1 : ((H.push (.cells z8)).push (.cells z2)).cells H.next = some z8 := cells_push_old (cells_push_new H z8)
 have c2 : ((H.push (.cells z8)).push (.cells z2)).cells (H.next + 1) = some z2 := cells_push_new (H.push (.cells z8)) z2
 have c3 := cells_set_other (x := .cells (put z8 0 cs)) c2 (show H.next + 1 ≠ H.next by omega)
 have p8 : put z8 0 cs = cs := put_all (by rw [h8]; rfl)
 have p2 : put z2 0 vs = vs := put_all (by rw [h2]; rfl)
 rw [p8] at c3
 have q1 : astore lim ((H.push (.cells z8)).push (.cells z2)) 8 (.ptr (some (H.next, 0))) (.agg cs) = some (((H.push (.cells z8)).push (.cells z2)).set H.next (.cells cs)) := by
  have := astore_at (lim := lim) (x := .agg cs) (n := 8) (o := 0) c1 hl h8 (by show 0 + 8 ≤ 8; omega) hc
  rw [show (AVal.agg cs).cells = cs from rfl, p8] at this
  exact this
 have q2 : astore lim (((H.push (.cells z8)).push (.cells z2)).set H.next (.cells cs)) 2 (.ptr (some (H.next + 1, 0))) (.agg vs) = some ((((H.push (.cells z8)).push (.cells z2)).set H.next (.cells cs)).set (H.next + 1) (.cells vs)) := by
  have := astore_at (lim := lim) (x := .agg vs) (n := 2) (o := 0) c3 (by omega) h2 (by show 0 + 2 ≤ 2; omega) hv
  rw [show (AVal.agg vs).cells = vs from rfl, p2] at this
  exact this
 have nn : ((H.push (.cells z8)).push (.cells z2)).next = H.next + 2 := by rw [Heap.next_push, Heap.next_push]
 refine ⟨_, _, q1, q2, nn, nn, cells_set_other (cells_set_same (by rw [nn]; omega)) (by omega), cells_set_same (by rw [Heap.next_set, nn]; omega), fun b hb => ?_⟩
 rw [Heap.get_set_other _ _ _ _ (by omega), Heap.get_set_other _ _ _ _ (by omega), Heap.get_push_old _ _ _ (by rw [Heap.next_push]; omega), Heap.get_push_old _ _ _ (by omega)]
section
variable {RP : CallerP} {lim0 lim n n' : Nat}
set_option maxHeartbeats 4000000 in
theorem del_loop {K : KP} {m : Nat} {es : List (AVal × AVal)} {clock : Clk} {pb po : Nat} {c : List AVal} {s : Int} {r : Nat} {H0 : Heap} (hlim : lim = H0.next) (hm : lim0 ≤ m) (hes : es.Pairwise Apart) (hok : ∀ e ∈ es, entOK e = true) (hpb : H0.get pb = some (.cells c)) (hs : c[po]? = some (.int .u8 s))
  (hpm : pb ≠ m) (hml : m < H0.next) : ∀ (j : Nat) (left cur : List (AVal × AVal)) (H : Heap) (T : List AVal) (c0 : Option (AVal × AVal)), left.length < j → H0.next ≤ H.next → H.get m = some (.map cur clock) → (∀ b, b < H0.next → b ≠ m → H.get b = H0.get b) → DelInv es cur left s →
  Sh74 m (.ptr (some (pb, po))) r T →
  (∀ T' H' it', H'.next = H.next + 4 * left.length → H'.get m = some (.map (es.filter fun e => !slotIs s e) clock) → (∀ b, b < H0.next → b ≠ m → H'.get b = H0.get b) → K (.exit 0) ⟨T', H', it'⟩) →
  loopP (execP (Ahs.runT ap (n' + 1)) RP lim0 lim n body74) j ⟨T, H, some ⟨r, some m, left, c0⟩⟩ K
 | 0, left, cur, H, T, c0, h1, _, _, _, _, _, _ => by omega
 | j + 1, left, cur, H, T, c0, h1, hn, hH, hold, hinv, ⟨t2, t3, t4, t5, t6, t8, t9, t10, t11, t12, t13, t14, t15, t16, t17, t18, hT⟩, hK => by
  subst hT
  unfold loopP
  show execP (Ahs.runT ap (n' + 1)) RP lim0 lim n (.seq (.region _) (.seq (.cond _ .skip (.exit 0)) (.block 1 _))) _ _
  refine execP_seq (execP_reg (opsP_next rfl rfl rfl rfl ?_ ?_))
  ·intro hleft
   simp only at hleft
   subst hleft
   refine opsP_v rfl rfl rfl rfl _ rfl rfl (opsP_nil ?_)
   refine execP_seq (execP_cond false rfl (fun e => by simp at e) fun _ => execP_exit ?_)
   refine hK _ _ _ (by simp) ?_ hold
   rw [← hinv.done]; exact hH
  ·intro k v rest hp
   simp only at hp
   refine opsP_v rfl rfl rfl rfl _ rfl rfl (opsP_nil ?_)
   refine execP_seq (execP_cond true rfl (fun _ => ?_) fun e => by simp at e)
   refine execP_skip ?_
   have hin : (k, v) ∈ es := hinv.sub _ (hp.mem_iff.2 (by simp))
   obtain ⟨cs, a, b, hk, h8, hcs, hv, hkk⟩ := ent_inv (hok _ hin)
   simp only at hk hv hkk
   subst hk hv
   have hlen : left.length = rest.length + 1 := by rw [hp.length_eq]; rfl
   obtain ⟨H2, H3, e2, e3, n2, n3, g1, g2, g3⟩ := boxes lim H (by omega) (vs := [.int .u8 a, .int .u8 b]) h8 rfl hcs rfl
   refine execP_gen (Sh74 m (.ptr (some (pb, po))) r) H (some ⟨r, some m, rest, some (.agg cs, .agg [.int .u8 a, .int .u8 b])⟩) ⟨_, _, _, _, _, _, _, _, _, _, _, _, _, _, _, _, rfl⟩ rfl rfl ?_
   rintro T ⟨t2, t3, t4, t5, t6, t8, t9, t10, t11, t12, t13, t14, t15, t16, t17, t18, hT⟩
   subst hT
   refine execP_block (execP_seq (execP_reg ?_))
   refine opsP_entry rfl rfl rfl rfl rfl ?_
   refine opsP_v rfl rfl rfl rfl _ rfl rfl ?_
   refine opsP_v rfl rfl rfl rfl _ rfl rfl ?_
   refine opsP_1 rfl rfl rfl rfl rfl ?_
   refine opsP_1 rfl rfl rfl rfl rfl ?_
   refine opsP_st rfl rfl rfl rfl e2 ?_
   refine opsP_st rfl rfl rfl rfl e3 (opsP_nil ?_)
   have l1 : aload H3 (some 8) (.ptr (some (H.next, 0))) = some (.agg cs) := by
    rw [aload_agg g1]
    simp only [Ahs.cut, Nat.zero_add, h8, Nat.le_refl, if_true, List.drop_zero, Option.map_some]
    rw [List.take_of_length_le (by omega)]
   have l2 : aload H3 (some 2) (.ptr (some (H.next + 1, 0))) = some (.agg [.int .u8 a, .int .u8 b]) := by
    rw [aload_agg g2]; rfl
   have hp3 : H3.get pb = some (.cells c) := by
    have := Heap.get_lt hpb
    rw [g3 pb (by omega), hold pb this hpm]; exact hpb
   refine execP_gen (Sh74b m (.ptr (some (pb, po))) r H.next t16) H3 (some ⟨r, some m, rest, some (.agg cs, .agg [.int .u8 a, .int .u8 b])⟩) ⟨_, _, _, _, _, _, _, _, _, _, _, _, _, rfl⟩ rfl rfl ?_
   rintro T ⟨t2, t3, t6, t8, t9, t10, t11, t12, t13, t14, t15, t17, t18, hT⟩
   subst hT
   refine execP_seq (execP_reg ?_)
   refine opsP_v rfl rfl rfl rfl _ rfl rfl ?_
   refine opsP_v rfl rfl rfl rfl _ rfl l1 ?_
   refine opsP_v rfl rfl rfl rfl _ rfl l2 ?_
   refine opsP_callv rfl rfl rfl rfl rfl (run75 hp3 hs hcs) (opsP_nil ?_)
   have n4 : ((H3.push (.cells cs)).push (.cells [.int .u8 a, .int .u8 b])).next = H.next + 4 := by rw [Heap.next_push, Heap.next_push]; omega
   have g4 : ∀ b', b' < H.next + 2 → ((H3.push (.cells cs)).push (.cells [.int .u8 a, .int .u8 b])).get b' = H3.get b' := by
    intro b' hb
    rw [Heap.get_push_old _ _ _ (by rw [Heap.next_push]; omega), Heap.get_push_old _ _ _ (by omega)]
   have o4 : ∀ b', b' < H0.next → b' ≠ m → ((H3.push (.cells cs)).push (.cells [.int .u8 a, .int .u8 b])).get b' = H0.get b' := by
    intro b' hb hne
    rw [g4 b' (by omega), g3 b' (by omega), hold b' hb hne]
   have m4 : ((H3.push (.cells cs)).push (.cells [.int .u8 a, .int .u8 b])).get m = some (.map cur clock) := by
    rw [g4 m (by omega), g3 m (by omega), hH]
   refine execP_gen (Sh74b m (.ptr (some (pb, po))) r H.next (.bool (a == s))) ((H3.push (.cells cs)).push (.cells [.int .u8 a, .int .u8 b])) (some ⟨r, some m, rest, some (.agg cs, .agg [.int .u8 a, .int .u8 b])⟩) ⟨_, _, _, _, _, _, _, _, _, _, _, _, _, rfl⟩ rfl rfl ?_
   rintro T ⟨t2, t3, t6, t8, t9, t10, t11, t12, t13, t14, t15, t17, t18, hT⟩
   subst hT
   by_cases he : a = s
   ·have hsl : slotIs s (.agg cs, .agg [.int .u8 a, .int .u8 b]) = true := by simp [slotIs, slotOf, he]
    obtain ⟨hkey, hinv'⟩ := hinv.del hes hok hp hsl
    refine execP_cond true (by show AVal.bool _ = _; rw [he]; simp) (fun _ => ?_) (fun e => by simp at e)
    have l4 : aload ((H3.push (.cells cs)).push (.cells [.int .u8 a, .int .u8 b])) (some 8) (.ptr (some (H.next, 0))) = some (.agg cs) := by
     rw [aload_congr (H := H3)]
     ·exact l1
     ·simp only [Heap.cells, g4 H.next (by omega)]
    have d4 : amapDelete lim0 ((H3.push (.cells cs)).push (.cells [.int .u8 a, .int .u8 b])) true tokLs (.map (some m)) (.agg cs) = some (((H3.push (.cells cs)).push (.cells [.int .u8 a, .int .u8 b])).set m (.map (mdel true tokLs (.agg cs) cur) clock)) := by
     simp only [amapDelete, m4]
     rw [if_pos ⟨hm, hkey⟩]
    refine execP_reg ?_
    refine opsP_v rfl rfl rfl rfl _ rfl rfl ?_
    refine opsP_v rfl rfl rfl rfl _ rfl l4 ?_
    refine opsP_del rfl rfl rfl rfl rfl d4 (hinv.apart hp) (opsP_nil ?_)
    refine del_loop hlim hm hes hok hpb hs hpm hml j rest _ _ _ _ (by omega) ?_ (Heap.get_set_same _ _ _ (by omega)) ?_ hinv' ⟨_, _, _, _, _, _, _, _, _, _, _, _, _, _, _, _, rfl⟩ ?_
    ·rw [Heap.next_set]; omega
    ·intro b' hb hne
     rw [Heap.get_set_other _ _ _ _ hne, o4 b' hb hne]
    ·intro T' H' it' hn' hm' ho'
     rw [Heap.next_set] at hn'
     exact hK T' H' it' (by omega) hm' ho'
   ·have hsl : slotIs s (.agg cs, .agg [.int .u8 a, .int .u8 b]) = false := by simp [slotIs, slotOf, he]
    refine execP_cond false (by show AVal.bool _ = _; simp [he]) (fun e => by simp at e) (fun _ => ?_)
    refine execP_skip ?_
    refine del_loop hlim hm hes hok hpb hs hpm hml j rest _ _ _ _ (by omega) (by omega) m4 o4 (hinv.keep hp hsl) ⟨_, _, _, _, _, _, _, _, _, _, _, _, _, _, _, _, rfl⟩ ?_
    intro T' H' it' hn' hm' ho'
    exact hK T' H' it' (by omega) hm' ho'
end
theorem aload_int {H : Heap} {p : AVal} {s : Int} (h : aload H none p = some (.int .u8 s)) : ∃ pb po c, p = .ptr (some (pb, po)) ∧ H.get pb = some (.cells c) ∧ c[po]? = some (.int .u8 s) := by
 obtain ⟨b, o, rfl, cs, hc⟩ := aload_inv h
 rw [aload_one hc] at h
 exact ⟨b, o, cs, rfl, Heap.cells_eq.1 hc, h⟩
theorem filter_slot (es : List (AVal × AVal)) (s : Int) : (es.filter fun e => !(slotOf e.2 == some s)) = es.filter fun e => !slotIs s e := rfl
set_option maxHeartbeats 4000000 in
theorem del_ok : PrimOK Try.prog 74 g74 := by
 refine PrimOK.drawn Try.checked.mixed ap_ok dpOK (f := 74) (af := f74) rfl ?_ ?_
 ·intro lim args H v H' hl h
  unfold g74 at h
  split at h <;> try (simp at h; done)
  split at h <;> try (simp at h; done)
  split at h <;> try (simp at h; done)
  rename_i hc
  simp only [Option.some.injEq, Prod.mk.injEq] at h
  obtain ⟨_, rfl⟩ := h
  refine ⟨by rw [pushDead_next, Heap.next_set]; omega, fun b hb => ?_⟩
  rw [pushDead_old _ (by rw [Heap.next_set]; omega), Heap.get_set_other _ _ _ _ (by have := hc.1; omega)]
 ·intro lim args H v H' hl h
  unfold g74 at h
  split at h <;> try (simp at h; done)
  rename_i m p
  split at h <;> try (simp at h; done)
  rename_i s es clock hs hm
  split at h <;> try (simp at h; done)
  rename_i hc
  simp only [Option.some.injEq, Prod.mk.injEq] at h
  obtain ⟨rfl, rfl⟩ := h
  obtain ⟨hlm, hok⟩ := hc
  obtain ⟨h1, h2⟩ := esOK_iff hok
  obtain ⟨pb, po, c, rfl, hpb, hpo⟩ := aload_int hs
  have hml := Heap.get_lt hm
  have hpm : pb ≠ m := by
   intro e; subst e; rw [hpb] at hm; simp at hm
  refine ⟨es.length + 3, .inr ⟨74, f74, rfl, rfl, ?_⟩⟩
  refine execP_seq (execP_reg ?_)
  refine opsP_v rfl rfl rfl rfl _ rfl rfl ?_
  refine opsP_range rfl rfl rfl rfl es (.inr ⟨m, clock, rfl, hm, hml⟩) fun r mb hmb => opsP_nil ?_
  have hmb' : mb = some m := by
   have h' : AVal.map (some m) = AVal.map mb := hmb
   simp at h'; exact h'.symm
  subst hmb'
  refine execP_block ?_
  refine del_loop (n := es.length + 2) (n' := es.length + 1) (lim0 := lim) (lim := H.next) (H0 := H) rfl hlm (apart_of h2) (fun e he => List.all_eq_true.1 h1 e he) hpb hpo hpm hml (es.length + 2) es es H _ _ (by omega) (Nat.le_refl _) hm (fun _ _ _ => rfl) ⟨rfl, fun e he _ => he, fun e he => he, fun e he => he, apart_of h2⟩ ⟨_, _, _, _, _, _, _, _, _, _, _, _, _, _, _, _, rfl⟩ ?_
  intro T' H1 it' hn hm' ho
  refine ⟨fun id => by simp, _, rfl, rfl, ?_⟩
  refine forget_dead (H := H.set m _) (by rw [Heap.next_set]; exact hn) fun b hb => ?_
  rw [Heap.next_set] at hb
  by_cases e : b = m
  ·subst e
   rw [hm', Heap.get_set_same _ _ _ hml, filter_slot]
  ·rw [ho b hb e, Heap.get_set_other _ _ _ _ e]
end Go.Proofs.Ytjflpnahjooffaa.catm
