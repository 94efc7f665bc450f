/- The disk, told plainly: files by rising names, records, the power, the fuse. -/
import Derived.Test.YtjflpnahjooffaaChsX1
import Derived.Sort.Walk0
set_option linter.unusedSimpArgs false
set_option linter.unusedVariables false
namespace Go.Proofs.Ytjflpnahjooffaa.disk
open Go.Ahs

abbrev Str := List UInt8
structure Fil where
  recs : List Str
  syn : Nat
  cut : Bool
  torn : Str
abbrev Fs := List (Str × Fil)
structure Dsk where
  fs : Fs
  off : Bool
  fuse : Nat

def noFil : Fil := ⟨[], 0, false, []⟩
def newD : Dsk := ⟨[], false, 0⟩

/-- Files by rising names. -/
def Asc {α : Type} (fs : List (Str × α)) : Prop := fs.Pairwise fun x y => x.1 < y.1

def ins {α : Type} (n : Str) (f : α) : List (Str × α) → List (Str × α)
  | [] => [(n, f)]
  | x :: xs => if n < x.1 then (n, f) :: x :: xs else if x.1 = n then (n, f) :: xs else x :: ins n f xs
def del {α : Type} (n : Str) (fs : List (Str × α)) : List (Str × α) := fs.filter fun x => !decide (x.1 = n)

theorem str_irrefl (a : Str) : ¬ a < a := List.lt_irrefl a
theorem str_trans {a b c : Str} (h : a < b) (h' : b < c) : a < c := List.lt_trans h h'
theorem str_tri (a b : Str) : a < b ∨ a = b ∨ b < a := by
  by_cases h : a < b
  · exact .inl h
  · by_cases h' : b < a
    · exact .inr (.inr h')
    · exact .inr (.inl (List.le_antisymm (List.not_lt.1 h') (List.not_lt.1 h)))

theorem Asc.nodup {α : Type} {fs : List (Str × α)} (h : Asc fs) : (fs.map (·.1)).Nodup := by
  unfold List.Nodup
  rw [List.pairwise_map]
  exact List.Pairwise.imp (fun hxy e => by rw [e] at hxy; exact str_irrefl _ hxy) h

theorem ins_mem {α : Type} {n : Str} {f : α} : ∀ {fs : List (Str × α)}, Asc fs → ∀ k a, (k, a) ∈ ins n f fs ↔ (k = n ∧ a = f) ∨ (k ≠ n ∧ (k, a) ∈ fs)
  | [], _, k, a => by simp [ins]
  | x :: xs, h, k, a => by
    have h1 := List.pairwise_cons.1 h
    unfold ins
    split
    · rename_i hlt
      have hne : ∀ y ∈ x :: xs, y.1 ≠ n := by
        intro y hy e
        rcases List.mem_cons.1 hy with rfl | hy
        · rw [e] at hlt; exact str_irrefl _ hlt
        · have := h1.1 y hy
          rw [e] at this
          exact str_irrefl _ (str_trans hlt this)
      rw [List.mem_cons]
      constructor
      · rintro (e | e)
        · simp at e; exact .inl e
        · exact .inr ⟨fun e' => hne _ e e', e⟩
      · rintro (⟨rfl, rfl⟩ | ⟨_, e⟩)
        · exact .inl rfl
        · exact .inr e
    · split
      · rename_i _ he
        rw [List.mem_cons, List.mem_cons]
        constructor
        · rintro (e | e)
          · simp at e; exact .inl e
          · refine .inr ⟨fun e' => ?_, .inr e⟩
            have := h1.1 _ e
            rw [he, e'] at this
            exact str_irrefl _ this
        · rintro (⟨rfl, rfl⟩ | ⟨hn, e | e⟩)
          · exact .inl rfl
          · exfalso; apply hn; rw [← he, ← e]
          · exact .inr e
      · rename_i _ he
        rw [List.mem_cons, List.mem_cons, ins_mem h1.2]
        constructor
        · rintro (e | e | e)
          · exact .inr ⟨fun e' => he (by rw [← e']; rw [← e]), .inl e⟩
          · exact .inl e
          · exact .inr ⟨e.1, .inr e.2⟩
        · rintro (e | ⟨hn, e | e⟩)
          · exact .inr (.inl e)
          · exact .inl e
          · exact .inr (.inr ⟨hn, e⟩)

theorem ins_asc {α : Type} {n : Str} {f : α} : ∀ {fs : List (Str × α)}, Asc fs → Asc (ins n f fs)
  | [], _ => by simp [ins, Asc]
  | x :: xs, h => by
    have h1 := List.pairwise_cons.1 h
    unfold ins
    split
    · rename_i hlt
      refine List.pairwise_cons.2 ⟨fun y hy => ?_, h⟩
      rcases List.mem_cons.1 hy with rfl | hy
      · exact hlt
      · exact str_trans hlt (h1.1 y hy)
    · rename_i hlt
      split
      · rename_i he
        refine List.pairwise_cons.2 ⟨fun y hy => ?_, h1.2⟩
        have := h1.1 y hy
        rw [he] at this; exact this
      · rename_i he
        refine List.pairwise_cons.2 ⟨fun y hy => ?_, ins_asc h1.2⟩
        rcases (ins_mem h1.2 y.1 y.2).1 hy with ⟨e, _⟩ | ⟨_, e⟩
        · rw [e]
          rcases str_tri n x.1 with g | g | g
          · exact absurd g hlt
          · exact absurd g.symm he
          · exact g
        · exact h1.1 y e

theorem ins_put {α : Type} {n : Str} {f : α} {fs : List (Str × α)} (h : Asc fs) : PutF fs n f (ins n f fs) := ⟨(ins_asc h).nodup, ins_mem h⟩

theorem del_mem {α : Type} {n : Str} {fs : List (Str × α)} (k : Str) (a : α) : (k, a) ∈ del n fs ↔ (k ≠ n ∧ (k, a) ∈ fs) := by
  unfold del
  rw [List.mem_filter]; simp [and_comm]
theorem del_asc {α : Type} {n : Str} {fs : List (Str × α)} (h : Asc fs) : Asc (del n fs) := List.Pairwise.sublist List.filter_sublist h
theorem del_del {α : Type} {n : Str} {fs : List (Str × α)} (h : Asc fs) : DelF fs n (del n fs) := ⟨(del_asc h).nodup, fun k a => del_mem k a⟩

theorem asc_unique : ∀ {l l' : List Str}, l.Pairwise (· < ·) → l'.Pairwise (· < ·) → (∀ x, x ∈ l ↔ x ∈ l') → l = l'
  | [], [], _, _, _ => rfl
  | [], y :: ys, _, _, h => by have := (h y).2 (by simp); simp at this
  | x :: xs, [], _, _, h => by have := (h x).1 (by simp); simp at this
  | x :: xs, y :: ys, h1, h2, h => by
    have g1 := List.pairwise_cons.1 h1
    have g2 := List.pairwise_cons.1 h2
    have hxy : x = y := by
      rcases List.mem_cons.1 ((h x).1 (by simp)) with e | e
      · exact e
      · rcases List.mem_cons.1 ((h y).2 (by simp)) with e' | e'
        · exact e'.symm
        · exact absurd (str_trans (g1.1 y e') (g2.1 x e)) (str_irrefl _)
    subst hxy
    congr 1
    refine asc_unique g1.2 g2.2 fun z => ?_
    constructor
    · intro hz
      rcases List.mem_cons.1 ((h z).1 (by simp [hz])) with e | e
      · subst e; exact absurd (g1.1 z hz) (str_irrefl _)
      · exact e
    · intro hz
      rcases List.mem_cons.1 ((h z).2 (by simp [hz])) with e | e
      · subst e; exact absurd (g2.1 z hz) (str_irrefl _)
      · exact e

/-! ## What is done to it -/

def rightN (n : Str) : Bool := decide (n ≠ []) && decide (n.length ≤ 32)
def burn (D : Dsk) : Dsk := if D.fuse = 0 then D else { D with fuse := D.fuse - 1, off := decide (D.fuse = 1) }

/-- An operation that burns the fuse; what it does, if the power stays. -/
def operD (D : Dsk) (k : Dsk → Dsk) : Int × Dsk := if (burn D).off = true then (7, burn D) else (0, k (burn D))

def appendD (D : Dsk) (n r : Str) : Int × Dsk :=
  if D.off = true then (7, D) else
  if rightN n = false ∨ r = [] then (1, D) else
  if ((lk D.fs n).getD noFil).cut = true then (9, D) else
  operD D fun B => { B with fs := ins n { ((lk D.fs n).getD noFil) with recs := ((lk D.fs n).getD noFil).recs ++ [r] } B.fs }
def onD (D : Dsk) (n : Str) (k : Fil → Dsk → Dsk) : Int × Dsk :=
  if D.off = true then (7, D) else
  match lk D.fs n with
  | none => (4, D)
  | some f => operD D (k f)
def syncD (D : Dsk) (n : Str) : Int × Dsk := onD D n fun f B => { B with fs := ins n { f with syn := f.recs.length } B.fs }
def renameD (D : Dsk) (a b : Str) : Int × Dsk :=
  if D.off = true then (7, D) else if rightN b = false then (1, D) else onD D a fun f B => { B with fs := ins b f (del a B.fs) }
def deleteD (D : Dsk) (n : Str) : Int × Dsk := onD D n fun _ B => { B with fs := del n B.fs }
def bytesF (f : Fil) : Str := f.recs.flatten ++ f.torn
def readD (D : Dsk) (n : Str) : Str × Int :=
  if D.off = true then ([], 7) else
  match lk D.fs n with
  | none => ([], 4)
  | some f => (bytesF f, 0)
def fuseD (D : Dsk) (n : Int) : Dsk := { D with fuse := n.toNat }
def startD (D : Dsk) : Dsk := { D with off := false }

def keepN (f : Fil) (keep : List Int) (k : Nat) : Nat :=
  match keep[k]? with
  | some x => min x.toNat (f.recs.length - f.syn)
  | none => 0
def keptF (f : Fil) (keep : List Int) (k : Nat) : Nat := f.syn + keepN f keep k
def tornF (f : Fil) (keep torn : List Int) (k : Nat) : Str :=
  match f.recs[keptF f keep k]?, torn[k]? with
  | some r, some t => r.take (t % (r.length : Int)).toNat
  | _, _ => f.torn
def leftF (f : Fil) (keep torn : List Int) (k : Nat) : Fil :=
  ⟨f.recs.take (keptF f keep k), keptF f keep k, f.cut || decide (keptF f keep k < f.recs.length), tornF f keep torn k⟩
def crashFs (keep torn : List Int) : Nat → Fs → Fs
  | _, [] => []
  | k, x :: xs => if x.2.syn < x.2.recs.length then (x.1, leftF x.2 keep torn k) :: crashFs keep torn (k + 1) xs else x :: crashFs keep torn k xs
def crashD (D : Dsk) (keep torn : List Int) : Dsk := { D with off := true, fs := crashFs keep torn 0 D.fs }

/-! ## What stays true -/

structure FilOK (K : Nat) (f : Fil) : Prop where
  syn : f.syn ≤ f.recs.length
  ne : ∀ r ∈ f.recs, r ≠ []
  torn : f.cut = false → f.torn = []
  cutS : f.cut = true → f.syn = f.recs.length
  many : f.recs.length ≤ K
  bytes : (bytesF f).length ≤ K
structure DskOK (K : Nat) (D : Dsk) : Prop where
  asc : Asc D.fs
  names : ∀ n ∈ D.fs.map (·.1), rightN n = true
  files : ∀ n f, (n, f) ∈ D.fs → FilOK K f
  len : D.fs.length ≤ K
  fuse : D.fuse < 9223372036854775808

theorem FilOK.mono {K K' : Nat} {f : Fil} (h : FilOK K f) (hk : K ≤ K') : FilOK K' f := ⟨h.syn, h.ne, h.torn, h.cutS, by have := h.many; omega, by have := h.bytes; omega⟩
theorem DskOK.mono {K K' : Nat} {D : Dsk} (h : DskOK K D) (hk : K ≤ K') : DskOK K' D := ⟨h.asc, h.names, fun n f hm => (h.files n f hm).mono hk, by have := h.len; omega, h.fuse⟩
theorem newD_ok : DskOK 0 newD := ⟨List.Pairwise.nil, fun _ h => by simp [newD] at h, fun _ _ h => by simp [newD] at h, Nat.le_refl _, by decide⟩
theorem noFil_ok : FilOK 0 noFil := ⟨Nat.le_refl _, fun _ h => by simp [noFil] at h, fun _ => rfl, fun h => by simp [noFil] at h, Nat.le_refl _, Nat.le_refl _⟩

theorem burn_ok {K : Nat} {D : Dsk} (h : DskOK K D) : DskOK K (burn D) := by
  unfold burn
  split
  · exact h
  · exact ⟨h.asc, h.names, h.files, h.len, by have := h.fuse; show D.fuse - 1 < _; omega⟩
theorem burn_fs (D : Dsk) : (burn D).fs = D.fs := by unfold burn; split <;> rfl

theorem ins_len {α : Type} {n : Str} {f : α} : ∀ (fs : List (Str × α)), (ins n f fs).length ≤ fs.length + 1
  | [] => by simp [ins]
  | x :: xs => by
    have := ins_len (n := n) (f := f) xs
    unfold ins
    split
    · simp
    · split <;> simp <;> omega

theorem ins_ok {K K' : Nat} {D : Dsk} (h : DskOK K D) {n : Str} {f : Fil} (hn : rightN n = true) (hf : FilOK K' f) (hk : K + 1 ≤ K') : DskOK K' { D with fs := ins n f D.fs } :=
  ⟨ins_asc h.asc, fun k hm => by
    obtain ⟨a, hm⟩ := mem_keys.1 hm
    rcases (ins_mem h.asc k a).1 hm with ⟨rfl, _⟩ | ⟨_, hm⟩
    · exact hn
    · exact h.names k (mem_keys.2 ⟨a, hm⟩), fun k a hm => by
    rcases (ins_mem h.asc k a).1 hm with ⟨_, rfl⟩ | ⟨_, hm⟩
    · exact hf
    · exact (h.files k a hm).mono (by omega), by have := ins_len (n := n) (f := f) D.fs; have := h.len; show (ins n f D.fs).length ≤ _; omega, h.fuse⟩
theorem del_ok {K : Nat} {D : Dsk} (h : DskOK K D) {n : Str} : DskOK K { D with fs := del n D.fs } :=
  ⟨del_asc h.asc, fun k hm => by obtain ⟨a, hm⟩ := mem_keys.1 hm; exact h.names k (mem_keys.2 ⟨a, ((del_mem k a).1 hm).2⟩), fun k a hm => h.files k a ((del_mem k a).1 hm).2, Nat.le_trans (List.length_filter_le _ _) h.len, h.fuse⟩

theorem lk_ok {K : Nat} {D : Dsk} (h : DskOK K D) (n : Str) : FilOK K ((lk D.fs n).getD noFil) := by
  cases hl : lk D.fs n with
  | none => exact noFil_ok.mono (Nat.zero_le _)
  | some f => exact h.files n f (lk_mem hl)

theorem operD_ok {K K' : Nat} {D : Dsk} (h : DskOK K D) (hk : K ≤ K') {k : Dsk → Dsk} (hq : ∀ B, DskOK K B → DskOK K' (k B)) : DskOK K' (operD D k).2 := by
  unfold operD
  split
  · exact (burn_ok h).mono hk
  · exact hq _ (burn_ok h)

theorem onD_ok {K K' : Nat} {D : Dsk} (h : DskOK K D) (hk : K ≤ K') {n : Str} {k : Fil → Dsk → Dsk} (hq : ∀ f B, rightN n = true → FilOK K f → DskOK K B → DskOK K' (k f B)) : DskOK K' (onD D n k).2 := by
  unfold onD
  split
  · exact h.mono hk
  · split
    · exact h.mono hk
    · rename_i f hl
      exact operD_ok h hk fun B hB => hq f B (h.names n (mem_keys.2 ⟨f, lk_mem hl⟩)) (h.files n f (lk_mem hl)) hB

theorem appendD_ok {K : Nat} {D : Dsk} (h : DskOK K D) (n r : Str) : DskOK (K + r.length + 1) (appendD D n r).2 := by
  unfold appendD
  split
  · exact h.mono (by omega)
  split
  · exact h.mono (by omega)
  rename_i hr
  split
  · exact h.mono (by omega)
  rename_i hc
  refine operD_ok h (by omega) fun B hB => ins_ok hB (by cases hn : rightN n with | true => rfl | false => exact absurd (Or.inl hn) hr) ?_ (by omega)
  have hf := lk_ok h n
  refine ⟨?_, ?_, hf.torn, fun e => absurd e hc, ?_, ?_⟩
  · have := hf.syn; simp; omega
  · intro x hx
    rcases List.mem_append.1 hx with hx | hx
    · exact hf.ne x hx
    · simp at hx; subst hx; exact fun e => hr (.inr e)
  · have := hf.many; simp; omega
  · have := hf.bytes
    simp only [bytesF, List.length_append, List.flatten_append, List.flatten_cons, List.flatten_nil, List.append_nil] at this ⊢
    omega

theorem syncD_ok {K : Nat} {D : Dsk} (h : DskOK K D) (n : Str) : DskOK (K + 1) (syncD D n).2 :=
  onD_ok h (by omega) fun f B hn hf hB => ins_ok hB hn ⟨Nat.le_refl _, hf.ne, hf.torn, fun _ => rfl, by have := hf.many; show f.recs.length ≤ _; omega, by have := hf.bytes; show (bytesF f).length ≤ _; omega⟩ (Nat.le_refl _)
theorem renameD_ok {K : Nat} {D : Dsk} (h : DskOK K D) (a b : Str) : DskOK (K + 1) (renameD D a b).2 := by
  unfold renameD
  split
  · exact h.mono (by omega)
  split
  · exact h.mono (by omega)
  rename_i hb
  exact onD_ok h (by omega) fun f B _ hf hB => ins_ok (del_ok hB) (by simpa using hb) (hf.mono (by omega)) (Nat.le_refl _)
theorem deleteD_ok {K : Nat} {D : Dsk} (h : DskOK K D) (n : Str) : DskOK K (deleteD D n).2 := onD_ok h (Nat.le_refl _) fun f B _ hf hB => del_ok hB
theorem fuseD_ok {K : Nat} {D : Dsk} (h : DskOK K D) {n : Int} (hn : n < 9223372036854775808) : DskOK K (fuseD D n) := ⟨h.asc, h.names, h.files, h.len, by show n.toNat < _; omega⟩
theorem startD_ok {K : Nat} {D : Dsk} (h : DskOK K D) : DskOK K (startD D) := ⟨h.asc, h.names, h.files, h.len, h.fuse⟩

theorem keptF_le {f : Fil} (h : f.syn ≤ f.recs.length) (keep : List Int) (k : Nat) : keptF f keep k ≤ f.recs.length := by
  unfold keptF keepN
  split
  · rename_i x _
    have := Nat.min_le_right x.toNat (f.recs.length - f.syn)
    omega
  · omega

theorem flatten_take_le {α : Type} (l : List (List α)) (n : Nat) : (l.take n).flatten.length ≤ l.flatten.length := by
  conv => rhs; rw [← List.take_append_drop n l, List.flatten_append, List.length_append]
  omega

theorem leftF_ok {K : Nat} {f : Fil} (h : FilOK K f) (hs : f.syn < f.recs.length) (keep torn : List Int) (k : Nat) : FilOK K (leftF f keep torn k) := by
  have hl := keptF_le h.syn keep k
  refine ⟨?_, fun r hr => h.ne r (List.mem_of_mem_take hr), ?_, fun _ => ?_, ?_, ?_⟩
  · simp only [leftF, List.length_take]; omega
  · intro hc
    simp only [leftF, Bool.or_eq_false_iff, decide_eq_false_iff_not] at hc
    simp only [leftF, tornF]
    rw [List.getElem?_eq_none (by omega)]
    exact h.torn hc.1
  · simp only [leftF, List.length_take]; omega
  · have := h.many
    simp only [leftF, List.length_take]; omega
  · have hb := h.bytes
    simp only [bytesF, List.length_append] at hb
    have ht := flatten_take_le f.recs (keptF f keep k)
    simp only [bytesF, leftF, List.length_append]
    unfold tornF
    split
    · rename_i r t hr _
      have hm : (f.recs.take (keptF f keep k)).flatten.length + r.length ≤ f.recs.flatten.length := by
        obtain ⟨hlt, rfl⟩ := List.getElem?_eq_some_iff.1 hr
        conv => rhs; rw [← List.take_append_drop (keptF f keep k) f.recs, List.drop_eq_getElem_cons hlt, List.flatten_append, List.flatten_cons, List.length_append, List.length_append]
        omega
      simp only [List.length_take]; omega
    · omega

theorem crashFs_keys (keep torn : List Int) : ∀ (k : Nat) (fs : Fs), (crashFs keep torn k fs).map (·.1) = fs.map (·.1)
  | _, [] => rfl
  | k, x :: xs => by
    unfold crashFs
    split <;> simp [crashFs_keys]
theorem crashFs_files {K : Nat} {keep torn : List Int} : ∀ {k : Nat} {fs : Fs}, (∀ n f, (n, f) ∈ fs → FilOK K f) → ∀ n f, (n, f) ∈ crashFs keep torn k fs → FilOK K f
  | _, [], h, n, f, hm => by simp [crashFs] at hm
  | k, x :: xs, h, n, f, hm => by
    unfold crashFs at hm
    split at hm
    · rename_i hs
      rcases List.mem_cons.1 hm with e | hm
      · simp at e
        rw [e.2]; exact leftF_ok (h x.1 x.2 (by simp)) hs keep torn k
      · exact crashFs_files (fun n f hm => h n f (by simp [hm])) n f hm
    · rcases List.mem_cons.1 hm with e | hm
      · exact h n f (by simp [e])
      · exact crashFs_files (fun n f hm => h n f (by simp [hm])) n f hm
theorem asc_keys {α : Type} {fs : List (Str × α)} : Asc fs ↔ (fs.map (·.1)).Pairwise (· < ·) := by rw [List.pairwise_map]; rfl
theorem crashD_ok {K : Nat} {D : Dsk} (h : DskOK K D) (keep torn : List Int) : DskOK K (crashD D keep torn) :=
  ⟨asc_keys.2 (by show ((crashFs keep torn 0 D.fs).map (·.1)).Pairwise _; rw [crashFs_keys]; exact asc_keys.1 h.asc), fun k hm => h.names k (by rw [← crashFs_keys keep torn 0]; exact hm), crashFs_files h.files,
    by have := congrArg List.length (crashFs_keys keep torn 0 D.fs); simp at this; show (crashFs keep torn 0 D.fs).length ≤ _; rw [this]; exact h.len, h.fuse⟩

/-! ## Acts -/

structure PAct where
  act : Int
  a : Str
  b : Str
  n : Int
  keep : List Int
  torn : List Int

def doesD (D : Dsk) (x : PAct) : (Str × Int) × Dsk :=
  if x.act = 0 then (([], (appendD D x.a x.b).1), (appendD D x.a x.b).2) else
  if x.act = 1 then (([], (syncD D x.a).1), (syncD D x.a).2) else
  if x.act = 2 then (([], (renameD D x.a x.b).1), (renameD D x.a x.b).2) else
  if x.act = 3 then (([], (deleteD D x.a).1), (deleteD D x.a).2) else
  if x.act = 4 then (readD D x.a, D) else
  if x.act = 5 then (([], 0), fuseD D x.n) else
  if x.act = 6 then (([], 0), crashD D x.keep x.torn) else
  if x.act = 7 then (([], 0), startD D) else (([], 0), D)
def playsD : Dsk → List PAct → Dsk := List.foldl fun D x => (doesD D x).2

structure PAct.ok (x : PAct) : Prop where
  n : x.n < 9223372036854775808
  lo : -9223372036854775808 ≤ x.n
  b : x.b.length ≤ 20000
  keep : x.keep.length ≤ 60
  torn : x.torn.length ≤ 60
  keepR : ∀ y ∈ x.keep, -9223372036854775808 ≤ y ∧ y < 9223372036854775808
  tornR : ∀ y ∈ x.torn, -9223372036854775808 ≤ y ∧ y < 9223372036854775808

theorem doesD_ok {K : Nat} {D : Dsk} (h : DskOK K D) {x : PAct} (hx : x.ok) : DskOK (K + 20001) (doesD D x).2 := by
  have hb := hx.b
  unfold doesD
  split
  · exact (appendD_ok h x.a x.b).mono (by omega)
  split
  · exact (syncD_ok h x.a).mono (by omega)
  split
  · exact (renameD_ok h x.a x.b).mono (by omega)
  split
  · exact (deleteD_ok h x.a).mono (by omega)
  split
  · exact h.mono (by omega)
  split
  · exact (fuseD_ok h hx.n).mono (by omega)
  split
  · exact (crashD_ok h x.keep x.torn).mono (by omega)
  split
  · exact (startD_ok h).mono (by omega)
  · exact h.mono (by omega)

theorem playsD_ok : ∀ {l : List PAct} {K : Nat} {D : Dsk}, DskOK K D → (∀ x ∈ l, x.ok) → DskOK (K + l.length * 20001) (playsD D l)
  | [], K, D, h, _ => by simpa [playsD] using h
  | x :: l, K, D, h, hx => by
    have h1 := doesD_ok h (hx x (by simp))
    have h2 := playsD_ok (l := l) h1 fun y hy => hx y (List.mem_cons_of_mem _ hy)
    exact h2.mono (by rw [List.length_cons, Nat.succ_mul]; omega)

end Go.Proofs.Ytjflpnahjooffaa.disk
