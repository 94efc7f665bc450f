/- The disk, told plainly: files by rising names, records, the power, the fuse. -/
import Derived.Test.YtjflpnahjooffaaChsX1
import Derived.Sort.Walk0
import Derived.Test.YtjflpnahjooffaaDxPr
import Derived.Test.YtjflpnahjooffaaDxW0
import Derived.Test.YtjflpnahjooffaaChsX2
import Derived.Test.YtjflpnahjooffaaChsX3
set_option linter.unusedSimpArgs false
set_option linter.unusedVariables false
set_option maxRecDepth 100000
namespace Go.Proofs.Ytjflpnahjooffaa.disk
open Go.Ahs

abbrev Str := List UInt8
structure Fil where
  recs : List Str
  syn : Nat
  cut : Bool
  torn : Str
abbrev Fs := List (Str × Fil)
structure Dsk where
  fs : Fs
  off : Bool
  fuse : Nat

def noFil : Fil := ⟨[], 0, false, []⟩
def newD : Dsk := ⟨[], false, 0⟩

/-- Files by rising names. -/
def Asc {α : Type} (fs : List (Str × α)) : Prop := fs.Pairwise fun x y => x.1 < y.1

def ins {α : Type} (n : Str) (f : α) : List (Str × α) → List (Str × α)
  | [] => [(n, f)]
  | x :: xs => if n < x.1 then (n, f) :: x :: xs else if x.1 = n then (n, f) :: xs else x :: ins n f xs
def del {α : Type} (n : Str) (fs : List (Str × α)) : List (Str × α) := fs.filter fun x => !decide (x.1 = n)

theorem str_irrefl (a : Str) : ¬ a < a := List.lt_irrefl a
theorem str_trans {a b c : Str} (h : a < b) (h' : b < c) : a < c := List.lt_trans h h'
theorem str_tri (a b : Str) : a < b ∨ a = b ∨ b < a := by
  by_cases h : a < b
  · exact .inl h
  · by_cases h' : b < a
    · exact .inr (.inr h')
    · exact .inr (.inl (List.le_antisymm (List.not_lt.1 h') (List.not_lt.1 h)))

theorem Asc.nodup {α : Type} {fs : List (Str × α)} (h : Asc fs) : (fs.map (·.1)).Nodup := by
  unfold List.Nodup
  rw [List.pairwise_map]
  exact List.Pairwise.imp (fun hxy e => by rw [e] at hxy; exact str_irrefl _ hxy) h

theorem ins_mem {α : Type} {n : Str} {f : α} : ∀ {fs : List (Str × α)}, Asc fs → ∀ k a, (k, a) ∈ ins n f fs ↔ (k = n ∧ a = f) ∨ (k ≠ n ∧ (k, a) ∈ fs)
  | [], _, k, a => by simp [ins]
  | x :: xs, h, k, a => by
    have h1 := List.pairwise_cons.1 h
    unfold ins
    split
    · rename_i hlt
      have hne : ∀ y ∈ x :: xs, y.1 ≠ n := by
        intro y hy e
        rcases List.mem_cons.1 hy with rfl | hy
        · rw [e] at hlt; exact str_irrefl _ hlt
        · have := h1.1 y hy
          rw [e] at this
          exact str_irrefl _ (str_trans hlt this)
      rw [List.mem_cons]
      constructor
      · rintro (e | e)
        · simp at e; exact .inl e
        · exact .inr ⟨fun e' => hne _ e e', e⟩
      · rintro (⟨rfl, rfl⟩ | ⟨_, e⟩)
        · exact .inl rfl
        · exact .inr e
    · split
      · rename_i _ he
        rw [List.mem_cons, List.mem_cons]
        constructor
        · rintro (e | e)
          · simp at e; exact .inl e
          · refine .inr ⟨fun e' => ?_, .inr e⟩
            have := h1.1 _ e
            rw [he, e'] at this
            exact str_irrefl _ this
        · rintro (⟨rfl, rfl⟩ | ⟨hn, e | e⟩)
          · exact .inl rfl
          · exfalso; apply hn; rw [← he, ← e]
          · exact .inr e
      · rename_i _ he
        rw [List.mem_cons, List.mem_cons, ins_mem h1.2]
        constructor
        · rintro (e | e | e)
          · exact .inr ⟨fun e' => he (by rw [← e']; rw [← e]), .inl e⟩
          · exact .inl e
          · exact .inr ⟨e.1, .inr e.2⟩
        · rintro (e | ⟨hn, e | e⟩)
          · exact .inr (.inl e)
          · exact .inl e
          · exact .inr (.inr ⟨hn, e⟩)

theorem ins_asc {α : Type} {n : Str} {f : α} : ∀ {fs : List (Str × α)}, Asc fs → Asc (ins n f fs)
  | [], _ => by simp [ins, Asc]
  | x :: xs, h => by
    have h1 := List.pairwise_cons.1 h
    unfold ins
    split
    · rename_i hlt
      refine List.pairwise_cons.2 ⟨fun y hy => ?_, h⟩
      rcases List.mem_cons.1 hy with rfl | hy
      · exact hlt
      · exact str_trans hlt (h1.1 y hy)
    · rename_i hlt
      split
      · rename_i he
        refine List.pairwise_cons.2 ⟨fun y hy => ?_, h1.2⟩
        have := h1.1 y hy
        rw [he] at this; exact this
      · rename_i he
        refine List.pairwise_cons.2 ⟨fun y hy => ?_, ins_asc h1.2⟩
        rcases (ins_mem h1.2 y.1 y.2).1 hy with ⟨e, _⟩ | ⟨_, e⟩
        · rw [e]
          rcases str_tri n x.1 with g | g | g
          · exact absurd g hlt
          · exact absurd g.symm he
          · exact g
        · exact h1.1 y e

theorem ins_put {α : Type} {n : Str} {f : α} {fs : List (Str × α)} (h : Asc fs) : PutF fs n f (ins n f fs) := ⟨(ins_asc h).nodup, ins_mem h⟩

theorem del_mem {α : Type} {n : Str} {fs : List (Str × α)} (k : Str) (a : α) : (k, a) ∈ del n fs ↔ (k ≠ n ∧ (k, a) ∈ fs) := by
  unfold del
  rw [List.mem_filter]; simp [and_comm]
theorem del_asc {α : Type} {n : Str} {fs : List (Str × α)} (h : Asc fs) : Asc (del n fs) := List.Pairwise.sublist List.filter_sublist h
theorem del_del {α : Type} {n : Str} {fs : List (Str × α)} (h : Asc fs) : DelF fs n (del n fs) := ⟨(del_asc h).nodup, fun k a => del_mem k a⟩

theorem asc_unique : ∀ {l l' : List Str}, l.Pairwise (· < ·) → l'.Pairwise (· < ·) → (∀ x, x ∈ l ↔ x ∈ l') → l = l'
  | [], [], _, _, _ => rfl
  | [], y :: ys, _, _, h => by have := (h y).2 (by simp); simp at this
  | x :: xs, [], _, _, h => by have := (h x).1 (by simp); simp at this
  | x :: xs, y :: ys, h1, h2, h => by
    have g1 := List.pairwise_cons.1 h1
    have g2 := List.pairwise_cons.1 h2
    have hxy : x = y := by
      rcases List.mem_cons.1 ((h x).1 (by simp)) with e | e
      · exact e
      · rcases List.mem_cons.1 ((h y).2 (by simp)) with e' | e'
        · exact e'.symm
        · exact absurd (str_trans (g1.1 y e') (g2.1 x e)) (str_irrefl _)
    subst hxy
    congr 1
    refine asc_unique g1.2 g2.2 fun z => ?_
    constructor
    · intro hz
      rcases List.mem_cons.1 ((h z).1 (by simp [hz])) with e | e
      · subst e; exact absurd (g1.1 z hz) (str_irrefl _)
      · exact e
    · intro hz
      rcases List.mem_cons.1 ((h z).2 (by simp [hz])) with e | e
      · subst e; exact absurd (g2.1 z hz) (str_irrefl _)
      · exact e

/-! ## What is done to it -/

def rightN (n : Str) : Bool := decide (n ≠ []) && decide (n.length ≤ 32)
def burn (D : Dsk) : Dsk := if D.fuse = 0 then D else { D with fuse := D.fuse - 1, off := decide (D.fuse = 1) }

/-- An operation that burns the fuse; what it does, if the power stays. -/
def operD (D : Dsk) (k : Dsk → Dsk) : Int × Dsk := if (burn D).off = true then (7, burn D) else (0, k (burn D))

def appendD (D : Dsk) (n r : Str) : Int × Dsk :=
  if D.off = true then (7, D) else
  if rightN n = false ∨ r = [] then (1, D) else
  if ((lk D.fs n).getD noFil).cut = true then (9, D) else
  operD D fun B => { B with fs := ins n { ((lk D.fs n).getD noFil) with recs := ((lk D.fs n).getD noFil).recs ++ [r] } B.fs }
def onD (D : Dsk) (n : Str) (k : Fil → Dsk → Dsk) : Int × Dsk :=
  if D.off = true then (7, D) else
  match lk D.fs n with
  | none => (4, D)
  | some f => operD D (k f)
def syncD (D : Dsk) (n : Str) : Int × Dsk := onD D n fun f B => { B with fs := ins n { f with syn := f.recs.length } B.fs }
def renameD (D : Dsk) (a b : Str) : Int × Dsk :=
  if D.off = true then (7, D) else if rightN b = false then (1, D) else onD D a fun f B => { B with fs := ins b f (del a B.fs) }
def deleteD (D : Dsk) (n : Str) : Int × Dsk := onD D n fun _ B => { B with fs := del n B.fs }
def bytesF (f : Fil) : Str := f.recs.flatten ++ f.torn
def readD (D : Dsk) (n : Str) : Str × Int :=
  if D.off = true then ([], 7) else
  match lk D.fs n with
  | none => ([], 4)
  | some f => (bytesF f, 0)
def fuseD (D : Dsk) (n : Int) : Dsk := { D with fuse := n.toNat }
def startD (D : Dsk) : Dsk := { D with off := false }

def keepN (f : Fil) (keep : List Int) (k : Nat) : Nat :=
  match keep[k]? with
  | some x => min x.toNat (f.recs.length - f.syn)
  | none => 0
def keptF (f : Fil) (keep : List Int) (k : Nat) : Nat := f.syn + keepN f keep k
def tornF (f : Fil) (keep torn : List Int) (k : Nat) : Str :=
  match f.recs[keptF f keep k]?, torn[k]? with
  | some r, some t => r.take (t % (r.length : Int)).toNat
  | _, _ => f.torn
def leftF (f : Fil) (keep torn : List Int) (k : Nat) : Fil :=
  ⟨f.recs.take (keptF f keep k), keptF f keep k, f.cut || decide (keptF f keep k < f.recs.length), tornF f keep torn k⟩
def crashFs (keep torn : List Int) : Nat → Fs → Fs
  | _, [] => []
  | k, x :: xs => if x.2.syn < x.2.recs.length then (x.1, leftF x.2 keep torn k) :: crashFs keep torn (k + 1) xs else x :: crashFs keep torn k xs
def crashD (D : Dsk) (keep torn : List Int) : Dsk := { D with off := true, fs := crashFs keep torn 0 D.fs }

/-! ## What stays true -/

structure FilOK (K : Nat) (f : Fil) : Prop where
  syn : f.syn ≤ f.recs.length
  ne : ∀ r ∈ f.recs, r ≠ []
  torn : f.cut = false → f.torn = []
  cutS : f.cut = true → f.syn = f.recs.length
  many : f.recs.length ≤ K
  bytes : (bytesF f).length ≤ K
structure DskOK (K : Nat) (D : Dsk) : Prop where
  asc : Asc D.fs
  names : ∀ n ∈ D.fs.map (·.1), rightN n = true
  files : ∀ n f, (n, f) ∈ D.fs → FilOK K f
  len : D.fs.length ≤ K
  fuse : D.fuse < 9223372036854775808

theorem FilOK.mono {K K' : Nat} {f : Fil} (h : FilOK K f) (hk : K ≤ K') : FilOK K' f := ⟨h.syn, h.ne, h.torn, h.cutS, by have := h.many; omega, by have := h.bytes; omega⟩
theorem DskOK.mono {K K' : Nat} {D : Dsk} (h : DskOK K D) (hk : K ≤ K') : DskOK K' D := ⟨h.asc, h.names, fun n f hm => (h.files n f hm).mono hk, by have := h.len; omega, h.fuse⟩
theorem newD_ok : DskOK 0 newD := ⟨List.Pairwise.nil, fun _ h => by simp [newD] at h, fun _ _ h => by simp [newD] at h, Nat.le_refl _, by decide⟩
theorem noFil_ok : FilOK 0 noFil := ⟨Nat.le_refl _, fun _ h => by simp [noFil] at h, fun _ => rfl, fun h => by simp [noFil] at h, Nat.le_refl _, Nat.le_refl _⟩

theorem burn_ok {K : Nat} {D : Dsk} (h : DskOK K D) : DskOK K (burn D) := by
  unfold burn
  split
  · exact h
  · exact ⟨h.asc, h.names, h.files, h.len, by have := h.fuse; show D.fuse - 1 < _; omega⟩
theorem burn_fs (D : Dsk) : (burn D).fs = D.fs := by unfold burn; split <;> rfl

theorem ins_len {α : Type} {n : Str} {f : α} : ∀ (fs : List (Str × α)), (ins n f fs).length ≤ fs.length + 1
  | [] => by simp [ins]
  | x :: xs => by
    have := ins_len (n := n) (f := f) xs
    unfold ins
    split
    · simp
    · split <;> simp <;> omega

theorem ins_ok {K K' : Nat} {D : Dsk} (h : DskOK K D) {n : Str} {f : Fil} (hn : rightN n = true) (hf : FilOK K' f) (hk : K + 1 ≤ K') : DskOK K' { D with fs := ins n f D.fs } :=
  ⟨ins_asc h.asc, fun k hm => by
    obtain ⟨a, hm⟩ := mem_keys.1 hm
    rcases (ins_mem h.asc k a).1 hm with ⟨rfl, _⟩ | ⟨_, hm⟩
    · exact hn
    · exact h.names k (mem_keys.2 ⟨a, hm⟩), fun k a hm => by
    rcases (ins_mem h.asc k a).1 hm with ⟨_, rfl⟩ | ⟨_, hm⟩
    · exact hf
    · exact (h.files k a hm).mono (by omega), by have := ins_len (n := n) (f := f) D.fs; have := h.len; show (ins n f D.fs).length ≤ _; omega, h.fuse⟩
theorem del_ok {K : Nat} {D : Dsk} (h : DskOK K D) {n : Str} : DskOK K { D with fs := del n D.fs } :=
  ⟨del_asc h.asc, fun k hm => by obtain ⟨a, hm⟩ := mem_keys.1 hm; exact h.names k (mem_keys.2 ⟨a, ((del_mem k a).1 hm).2⟩), fun k a hm => h.files k a ((del_mem k a).1 hm).2, Nat.le_trans (List.length_filter_le _ _) h.len, h.fuse⟩

theorem lk_ok {K : Nat} {D : Dsk} (h : DskOK K D) (n : Str) : FilOK K ((lk D.fs n).getD noFil) := by
  cases hl : lk D.fs n with
  | none => exact noFil_ok.mono (Nat.zero_le _)
  | some f => exact h.files n f (lk_mem hl)

theorem operD_ok {K K' : Nat} {D : Dsk} (h : DskOK K D) (hk : K ≤ K') {k : Dsk → Dsk} (hq : ∀ B, DskOK K B → DskOK K' (k B)) : DskOK K' (operD D k).2 := by
  unfold operD
  split
  · exact (burn_ok h).mono hk
  · exact hq _ (burn_ok h)

theorem onD_ok {K K' : Nat} {D : Dsk} (h : DskOK K D) (hk : K ≤ K') {n : Str} {k : Fil → Dsk → Dsk} (hq : ∀ f B, rightN n = true → FilOK K f → DskOK K B → DskOK K' (k f B)) : DskOK K' (onD D n k).2 := by
  unfold onD
  split
  · exact h.mono hk
  · split
    · exact h.mono hk
    · rename_i f hl
      exact operD_ok h hk fun B hB => hq f B (h.names n (mem_keys.2 ⟨f, lk_mem hl⟩)) (h.files n f (lk_mem hl)) hB

theorem appendD_ok {K : Nat} {D : Dsk} (h : DskOK K D) (n r : Str) : DskOK (K + r.length + 1) (appendD D n r).2 := by
  unfold appendD
  split
  · exact h.mono (by omega)
  split
  · exact h.mono (by omega)
  rename_i hr
  split
  · exact h.mono (by omega)
  rename_i hc
  refine operD_ok h (by omega) fun B hB => ins_ok hB (by cases hn : rightN n with | true => rfl | false => exact absurd (Or.inl hn) hr) ?_ (by omega)
  have hf := lk_ok h n
  refine ⟨?_, ?_, hf.torn, fun e => absurd e hc, ?_, ?_⟩
  · have := hf.syn; simp; omega
  · intro x hx
    rcases List.mem_append.1 hx with hx | hx
    · exact hf.ne x hx
    · simp at hx; subst hx; exact fun e => hr (.inr e)
  · have := hf.many; simp; omega
  · have := hf.bytes
    simp only [bytesF, List.length_append, List.flatten_append, List.flatten_cons, List.flatten_nil, List.append_nil] at this ⊢
    omega

theorem syncD_ok {K : Nat} {D : Dsk} (h : DskOK K D) (n : Str) : DskOK (K + 1) (syncD D n).2 :=
  onD_ok h (by omega) fun f B hn hf hB => ins_ok hB hn ⟨Nat.le_refl _, hf.ne, hf.torn, fun _ => rfl, by have := hf.many; show f.recs.length ≤ _; omega, by have := hf.bytes; show (bytesF f).length ≤ _; omega⟩ (Nat.le_refl _)
theorem renameD_ok {K : Nat} {D : Dsk} (h : DskOK K D) (a b : Str) : DskOK (K + 1) (renameD D a b).2 := by
  unfold renameD
  split
  · exact h.mono (by omega)
  split
  · exact h.mono (by omega)
  rename_i hb
  exact onD_ok h (by omega) fun f B _ hf hB => ins_ok (del_ok hB) (by simpa using hb) (hf.mono (by omega)) (Nat.le_refl _)
theorem deleteD_ok {K : Nat} {D : Dsk} (h : DskOK K D) (n : Str) : DskOK K (deleteD D n).2 := onD_ok h (Nat.le_refl _) fun f B _ hf hB => del_ok hB
theorem fuseD_ok {K : Nat} {D : Dsk} (h : DskOK K D) {n : Int} (hn : n < 9223372036854775808) : DskOK K (fuseD D n) := ⟨h.asc, h.names, h.files, h.len, by show n.toNat < _; omega⟩
theorem startD_ok {K : Nat} {D : Dsk} (h : DskOK K D) : DskOK K (startD D) := ⟨h.asc, h.names, h.files, h.len, h.fuse⟩

theorem keptF_le {f : Fil} (h : f.syn ≤ f.recs.length) (keep : List Int) (k : Nat) : keptF f keep k ≤ f.recs.length := by
  unfold keptF keepN
  split
  · rename_i x _
    have := Nat.min_le_right x.toNat (f.recs.length - f.syn)
    omega
  · omega

theorem flatten_take_le {α : Type} (l : List (List α)) (n : Nat) : (l.take n).flatten.length ≤ l.flatten.length := by
  conv => rhs; rw [← List.take_append_drop n l, List.flatten_append, List.length_append]
  omega

theorem leftF_ok {K : Nat} {f : Fil} (h : FilOK K f) (hs : f.syn < f.recs.length) (keep torn : List Int) (k : Nat) : FilOK K (leftF f keep torn k) := by
  have hl := keptF_le h.syn keep k
  refine ⟨?_, fun r hr => h.ne r (List.mem_of_mem_take hr), ?_, fun _ => ?_, ?_, ?_⟩
  · simp only [leftF, List.length_take]; omega
  · intro hc
    simp only [leftF, Bool.or_eq_false_iff, decide_eq_false_iff_not] at hc
    simp only [leftF, tornF]
    rw [List.getElem?_eq_none (by omega)]
    exact h.torn hc.1
  · simp only [leftF, List.length_take]; omega
  · have := h.many
    simp only [leftF, List.length_take]; omega
  · have hb := h.bytes
    simp only [bytesF, List.length_append] at hb
    have ht := flatten_take_le f.recs (keptF f keep k)
    simp only [bytesF, leftF, List.length_append]
    unfold tornF
    split
    · rename_i r t hr _
      have hm : (f.recs.take (keptF f keep k)).flatten.length + r.length ≤ f.recs.flatten.length := by
        obtain ⟨hlt, rfl⟩ := List.getElem?_eq_some_iff.1 hr
        conv => rhs; rw [← List.take_append_drop (keptF f keep k) f.recs, List.drop_eq_getElem_cons hlt, List.flatten_append, List.flatten_cons, List.length_append, List.length_append]
        omega
      simp only [List.length_take]; omega
    · omega

theorem crashFs_keys (keep torn : List Int) : ∀ (k : Nat) (fs : Fs), (crashFs keep torn k fs).map (·.1) = fs.map (·.1)
  | _, [] => rfl
  | k, x :: xs => by
    unfold crashFs
    split <;> simp [crashFs_keys]
theorem crashFs_files {K : Nat} {keep torn : List Int} : ∀ {k : Nat} {fs : Fs}, (∀ n f, (n, f) ∈ fs → FilOK K f) → ∀ n f, (n, f) ∈ crashFs keep torn k fs → FilOK K f
  | _, [], h, n, f, hm => by simp [crashFs] at hm
  | k, x :: xs, h, n, f, hm => by
    unfold crashFs at hm
    split at hm
    · rename_i hs
      rcases List.mem_cons.1 hm with e | hm
      · simp at e
        rw [e.2]; exact leftF_ok (h x.1 x.2 (by simp)) hs keep torn k
      · exact crashFs_files (fun n f hm => h n f (by simp [hm])) n f hm
    · rcases List.mem_cons.1 hm with e | hm
      · exact h n f (by simp [e])
      · exact crashFs_files (fun n f hm => h n f (by simp [hm])) n f hm
theorem asc_keys {α : Type} {fs : List (Str × α)} : Asc fs ↔ (fs.map (·.1)).Pairwise (· < ·) := by rw [List.pairwise_map]; rfl
theorem crashD_ok {K : Nat} {D : Dsk} (h : DskOK K D) (keep torn : List Int) : DskOK K (crashD D keep torn) :=
  ⟨asc_keys.2 (by show ((crashFs keep torn 0 D.fs).map (·.1)).Pairwise _; rw [crashFs_keys]; exact asc_keys.1 h.asc), fun k hm => h.names k (by rw [← crashFs_keys keep torn 0]; exact hm), crashFs_files h.files,
    by have := congrArg List.length (crashFs_keys keep torn 0 D.fs); simp at this; show (crashFs keep torn 0 D.fs).length ≤ _; rw [this]; exact h.len, h.fuse⟩

/-! ## Acts -/

structure PAct where
  act : Int
  a : Str
  b : Str
  n : Int
  keep : List Int
  torn : List Int

def doesD (D : Dsk) (x : PAct) : (Str × Int) × Dsk :=
  if x.act = 0 then (([], (appendD D x.a x.b).1), (appendD D x.a x.b).2) else
  if x.act = 1 then (([], (syncD D x.a).1), (syncD D x.a).2) else
  if x.act = 2 then (([], (renameD D x.a x.b).1), (renameD D x.a x.b).2) else
  if x.act = 3 then (([], (deleteD D x.a).1), (deleteD D x.a).2) else
  if x.act = 4 then (readD D x.a, D) else
  if x.act = 5 then (([], 0), fuseD D x.n) else
  if x.act = 6 then (([], 0), crashD D x.keep x.torn) else
  if x.act = 7 then (([], 0), startD D) else (([], 0), D)
def playsD : Dsk → List PAct → Dsk := List.foldl fun D x => (doesD D x).2

structure PAct.ok (x : PAct) : Prop where
  n : x.n < 9223372036854775808
  lo : -9223372036854775808 ≤ x.n
  b : x.b.length ≤ 20000
  keep : x.keep.length ≤ 60
  torn : x.torn.length ≤ 60
  keepR : ∀ y ∈ x.keep, -9223372036854775808 ≤ y ∧ y < 9223372036854775808
  tornR : ∀ y ∈ x.torn, -9223372036854775808 ≤ y ∧ y < 9223372036854775808

theorem doesD_ok {K : Nat} {D : Dsk} (h : DskOK K D) {x : PAct} (hx : x.ok) : DskOK (K + 20001) (doesD D x).2 := by
  have hb := hx.b
  unfold doesD
  split
  · exact (appendD_ok h x.a x.b).mono (by omega)
  split
  · exact (syncD_ok h x.a).mono (by omega)
  split
  · exact (renameD_ok h x.a x.b).mono (by omega)
  split
  · exact (deleteD_ok h x.a).mono (by omega)
  split
  · exact h.mono (by omega)
  split
  · exact (fuseD_ok h hx.n).mono (by omega)
  split
  · exact (crashD_ok h x.keep x.torn).mono (by omega)
  split
  · exact (startD_ok h).mono (by omega)
  · exact h.mono (by omega)

theorem playsD_ok : ∀ {l : List PAct} {K : Nat} {D : Dsk}, DskOK K D → (∀ x ∈ l, x.ok) → DskOK (K + l.length * 20001) (playsD D l)
  | [], K, D, h, _ => by simpa [playsD] using h
  | x :: l, K, D, h, hx => by
    have h1 := doesD_ok h (hx x (by simp))
    have h2 := playsD_ok (l := l) h1 fun y hy => hx y (List.mem_cons_of_mem _ hy)
    exact h2.mono (by rw [List.length_cons, Nat.succ_mul]; omega)


/-! What the disk's laws say, plainly. -/

/-! ## Looking up -/
section
variable {α : Type}
theorem lk_iff {fs : List (Str × α)} (h : Asc fs) {n : Str} {a : α} : lk fs n = some a ↔ (n, a) ∈ fs := ⟨lk_mem, lk_of_mem h.nodup⟩

theorem lk_ext {fs gs : List (Str × α)} {n : Str} (h : Asc fs) (h' : Asc gs) (hm : ∀ a, (n, a) ∈ fs ↔ (n, a) ∈ gs) : lk fs n = lk gs n := by
  cases hl : lk fs n with
  | some a => exact ((lk_iff h').2 ((hm a).1 ((lk_iff h).1 hl))).symm
  | none =>
    cases hl' : lk gs n with
    | none => rfl
    | some a => rw [(lk_iff h).2 ((hm a).2 ((lk_iff h').1 hl'))] at hl; simp at hl

theorem lk_ins {fs : List (Str × α)} (h : Asc fs) (n k : Str) (f : α) : lk (ins n f fs) k = if k = n then some f else lk fs k := by
  by_cases e : k = n
  · rw [if_pos e]
    exact (lk_iff (ins_asc h)).2 ((ins_mem h _ _).2 (.inl ⟨e, rfl⟩))
  · rw [if_neg e]
    refine lk_ext (ins_asc h) h fun a => ?_
    rw [ins_mem h]
    constructor
    · rintro (⟨e', _⟩ | ⟨_, h⟩)
      · exact absurd e' e
      · exact h
    · exact fun h => .inr ⟨e, h⟩

theorem lk_del {fs : List (Str × α)} (h : Asc fs) (n k : Str) : lk (del n fs) k = if k = n then none else lk fs k := by
  by_cases e : k = n
  · rw [if_pos e, lk_none, mem_keys]
    rintro ⟨a, ha⟩
    exact ((del_mem _ _).1 ha).1 e
  · rw [if_neg e]
    refine lk_ext (del_asc h) h fun a => ?_
    rw [del_mem]
    exact ⟨fun h => h.2, fun h => ⟨e, h⟩⟩
end

theorem lk_crash (keep torn : List Int) (n : Str) : ∀ (k : Nat) (fs : Fs), ∃ j, lk (crashFs keep torn k fs) n = (lk fs n).map fun f => if f.syn < f.recs.length then leftF f keep torn j else f
  | k, [] => ⟨0, rfl⟩
  | k, x :: xs => by
    by_cases e : x.1 = n
    · refine ⟨k, ?_⟩
      unfold crashFs
      by_cases hs : x.2.syn < x.2.recs.length
      · simp [lk, hs, e]
      · simp [lk, hs, e]
    · unfold crashFs
      by_cases hs : x.2.syn < x.2.recs.length
      · obtain ⟨j, hj⟩ := lk_crash keep torn n (k + 1) xs
        refine ⟨j, ?_⟩
        have : ∀ (y : Str × Fil) (ys : Fs), y.1 = x.1 → lk (y :: ys) n = lk ys n := by
          intro y ys hy
          simp [lk, hy, e]
        rw [if_pos hs, this (x.1, leftF x.2 keep torn k) (crashFs keep torn (k + 1) xs) rfl, hj, this x xs rfl]
      · obtain ⟨j, hj⟩ := lk_crash keep torn n k xs
        refine ⟨j, ?_⟩
        have : ∀ (y : Str × Fil) (ys : Fs), y.1 = x.1 → lk (y :: ys) n = lk ys n := by
          intro y ys hy
          simp [lk, hy, e]
        rw [if_neg hs, this x (crashFs keep torn k xs) rfl, hj, this x xs rfl]

/-! ## DiskLasts -/

/-- What lasts of a file. -/
structure Lasts (f g : Fil) : Prop where
  recs : f.recs <+: g.recs
  syn : f.recs.length ≤ g.syn
  cut : f.cut = true → g = f
  torn : f.cut = false → f.torn = []
def LastsD (n : Str) (f : Fil) (D : Dsk) : Prop := ∃ g, lk D.fs n = some g ∧ Lasts f g

theorem LastsD.oper {n : Str} {f : Fil} {D : Dsk} (h : LastsD n f D) {k : Dsk → Dsk} (hk : ∀ B, B.fs = D.fs → LastsD n f (k B)) : LastsD n f (operD D k).2 := by
  unfold operD
  split
  · obtain ⟨g, h1, h2⟩ := h
    exact ⟨g, by rw [burn_fs]; exact h1, h2⟩
  · exact hk _ (burn_fs D)

theorem LastsD.append {K : Nat} {n : Str} {f : Fil} {D : Dsk} (hD : DskOK K D) (h : LastsD n f D) (m r : Str) : LastsD n f (appendD D m r).2 := by
  unfold appendD
  split
  · exact h
  split
  · exact h
  split
  · exact h
  rename_i hc
  refine h.oper fun B hB => ?_
  obtain ⟨g, h1, h2⟩ := h
  unfold LastsD
  simp only [hB]
  rw [lk_ins hD.asc]
  by_cases e : n = m
  · subst e
    rw [if_pos rfl]
    rw [h1, Option.getD_some] at hc ⊢
    refine ⟨_, rfl, h2.recs.trans (List.prefix_append _ _), h2.syn, fun hf => ?_, h2.torn⟩
    have := h2.cut hf
    subst this
    exact absurd hf hc
  · rw [if_neg e]
    exact ⟨g, h1, h2⟩

theorem LastsD.sync {K : Nat} {n : Str} {f : Fil} {D : Dsk} (hD : DskOK K D) (hf : f.syn = f.recs.length) (h : LastsD n f D) (m : Str) : LastsD n f (syncD D m).2 := by
  unfold syncD onD
  split
  · exact h
  split
  · exact h
  rename_i g' hl
  refine h.oper fun B hB => ?_
  obtain ⟨g, h1, h2⟩ := h
  unfold LastsD
  simp only [hB]
  rw [lk_ins hD.asc]
  by_cases e : n = m
  · subst e
    rw [h1] at hl
    simp at hl
    subst hl
    rw [if_pos rfl]
    refine ⟨_, rfl, h2.recs, h2.recs.length_le, fun hc => ?_, h2.torn⟩
    have := h2.cut hc
    subst this
    rw [← hf]
  · rw [if_neg e]
    exact ⟨g, h1, h2⟩

theorem LastsD.crash {n : Str} {f : Fil} {D : Dsk} (hf : f.syn = f.recs.length) (h : LastsD n f D) (keep torn : List Int) : LastsD n f (crashD D keep torn) := by
  obtain ⟨g, h1, h2⟩ := h
  obtain ⟨j, hj⟩ := lk_crash keep torn n 0 D.fs
  rw [h1, Option.map_some] at hj
  refine ⟨_, hj, ?_⟩
  split
  · rename_i hs
    have hk : g.syn ≤ keptF g keep j := by unfold keptF; omega
    have := h2.syn
    refine ⟨?_, by show _ ≤ keptF g keep j; omega, fun hc => ?_, h2.torn⟩
    · show f.recs <+: g.recs.take (keptF g keep j)
      exact List.prefix_take_iff.2 ⟨h2.recs, by omega⟩
    · have := h2.cut hc
      subst this
      omega
  · exact h2

theorem LastsD.does {K : Nat} {n : Str} {f : Fil} {D : Dsk} (hD : DskOK K D) (hf : f.syn = f.recs.length) (h : LastsD n f D) {x : PAct} (h2 : x.act ≠ 2) (h3 : x.act ≠ 3) : LastsD n f (doesD D x).2 := by
  unfold doesD
  split
  · exact h.append hD _ _
  split
  · exact h.sync hD hf _
  split
  · exact h
  split
  · exact h
  split
  · exact h.crash hf _ _
  split <;> exact h

def mild (x : PAct) : Bool := !decide (x.act = 2) && !decide (x.act = 3)

theorem LastsD.plays {n : Str} {f : Fil} (hf : f.syn = f.recs.length) : ∀ {l : List PAct} {K : Nat} {D : Dsk}, DskOK K D → (∀ x ∈ l, x.ok) → LastsD n f D → LastsD n f (playsD D (l.filter mild)) 
  | [], K, D, hD, _, h => h
  | x :: l, K, D, hD, hx, h => by
    rw [List.filter_cons]
    split
    · rename_i hm
      simp only [mild, Bool.and_eq_true, Bool.not_eq_true', decide_eq_false_iff_not] at hm
      exact LastsD.plays hf (doesD_ok hD (hx x (by simp))) (fun y hy => hx y (by simp [hy])) (h.does hD hf hm.1 hm.2)
    · exact LastsD.plays hf hD (fun y hy => hx y (by simp [hy])) h

theorem crash_syn {K : Nat} {g : Fil} (hg : FilOK K g) {keep torn : List Int} {j : Nat} : (if g.syn < g.recs.length then leftF g keep torn j else g).syn = (if g.syn < g.recs.length then leftF g keep torn j else g).recs.length := by
  split
  · have := keptF_le hg.syn keep j
    simp only [leftF, List.length_take]; omega
  · have := hg.syn; omega

/-- The law, plainly. -/
theorem lasts_law {K : Nat} {D1 : Dsk} (h1 : DskOK K D1) (hoff : D1.off = false) (hfu : D1.fuse = 0) {name : Str} (hs : (syncD D1 name).1 = 0) {m : List PAct} (hm : ∀ x ∈ m, x.ok) (keep torn : List Int) :
    ∃ f g, lk (syncD D1 name).2.fs name = some f ∧ (syncD D1 name).2.off = false ∧ lk (crashD (playsD (syncD D1 name).2 (m.filter mild)) keep torn).fs name = some g ∧ bytesF f <+: bytesF g ∧ f.recs.length ≤ g.recs.length ∧ g.syn = g.recs.length := by
  have hb : burn D1 = D1 := by unfold burn; rw [if_pos hfu]
  have hlk : ∃ f0, lk D1.fs name = some f0 := by
    unfold syncD onD at hs
    rw [if_neg (by rw [hoff]; simp)] at hs
    split at hs
    · simp at hs
    · exact ⟨_, by assumption⟩
  obtain ⟨f0, hf0⟩ := hlk
  have e2 : (syncD D1 name).2 = { D1 with fs := ins name { f0 with syn := f0.recs.length } D1.fs } := by
    unfold syncD onD operD
    rw [if_neg (by rw [hoff]; simp), hf0, hb]
    simp [hoff]
  have hok2 := syncD_ok h1 name
  rw [e2] at hok2 ⊢
  have hl2 : lk (ins name { f0 with syn := f0.recs.length } D1.fs) name = some { f0 with syn := f0.recs.length } := by rw [lk_ins h1.asc, if_pos rfl]
  have hfo := h1.files _ _ (lk_mem hf0)
  have hL : LastsD name { f0 with syn := f0.recs.length } { D1 with fs := ins name { f0 with syn := f0.recs.length } D1.fs } := ⟨_, hl2, List.prefix_refl _, Nat.le_refl _, fun _ => rfl, hfo.torn⟩
  have hP := LastsD.plays (f := { f0 with syn := f0.recs.length }) rfl hok2 hm hL
  have hC := hP.crash rfl keep torn
  obtain ⟨g, q1, q2⟩ := hC
  refine ⟨_, g, hl2, hoff, q1, ?_, Nat.le_trans q2.syn ?_, ?_⟩
  · unfold bytesF
    cases hc : f0.cut with
    | true =>
      have := q2.cut hc
      rw [this]; exact List.prefix_refl _
    | false =>
      have ht : f0.torn = [] := q2.torn hc
      show f0.recs.flatten ++ f0.torn <+: _
      rw [ht, List.append_nil]
      obtain ⟨t, ht2⟩ := q2.recs
      have : f0.recs ++ t = g.recs := ht2
      rw [← this, List.flatten_append, List.append_assoc]
      exact List.prefix_append _ _
  all_goals
    have hokP := playsD_ok (l := m.filter mild) hok2 fun x hx => hm x (List.mem_filter.1 hx).1
    obtain ⟨g', r1, r2⟩ := hP
    obtain ⟨j, hj⟩ := lk_crash keep torn name 0 (playsD { D1 with fs := ins name { f0 with syn := f0.recs.length } D1.fs } (m.filter mild)).fs
    rw [r1, Option.map_some] at hj
    have hq : some g = some _ := q1.symm.trans hj
    simp only [Option.some.injEq] at hq
    have := crash_syn (hokP.files _ _ (lk_mem r1)) (keep := keep) (torn := torn) (j := j)
    rw [← hq] at this
    omega

/-! ## DiskCounts -/

def cnt (f : Fil) : Nat × Nat × Bool := (f.recs.length, f.syn, f.cut)
def cfs (fs : Fs) : List (Str × Nat × Nat × Bool) := fs.map fun x => (x.1, cnt x.2)
structure Alike (D E : Dsk) : Prop where
  fs : cfs D.fs = cfs E.fs
  off : D.off = E.off
  fuse : D.fuse = E.fuse

theorem lk_cfs (fs : Fs) (n : Str) : lk (cfs fs) n = (lk fs n).map cnt := by
  unfold lk cfs
  induction fs with
  | nil => rfl
  | cons x xs ih =>
    rw [List.map_cons, List.find?_cons, List.find?_cons]
    by_cases e : x.1 = n
    · simp [e]
    · simp only [decide_eq_false e]; exact ih
theorem ins_cfs (n : Str) (f : Fil) : ∀ (fs : Fs), cfs (ins n f fs) = ins n (cnt f) (cfs fs)
  | [] => rfl
  | x :: xs => by
    unfold ins cfs
    rw [List.map_cons]
    by_cases h : n < x.1
    · simp [h]
    · by_cases e : x.1 = n
      · show _ = if n < x.1 then (n, cnt f) :: (x.1, cnt x.2) :: List.map (fun x => (x.1, cnt x.2)) xs else if x.1 = n then (n, cnt f) :: List.map (fun x => (x.1, cnt x.2)) xs else _
        rw [if_neg h, if_pos e, if_neg h, if_pos e]; rfl
      · have := ins_cfs n f xs
        unfold cfs at this
        simp [h, e, this]
theorem del_cfs (n : Str) (fs : Fs) : cfs (del n fs) = del n (cfs fs) := by
  unfold cfs del
  rw [List.filter_map]; rfl

theorem Alike.lk {D E : Dsk} (h : Alike D E) (n : Str) : (lk D.fs n).map cnt = (Ahs.lk E.fs n).map cnt := by rw [← lk_cfs, ← lk_cfs, h.fs]
theorem Alike.burn {D E : Dsk} (h : Alike D E) : Alike (burn D) (disk.burn E) := by
  unfold disk.burn
  rw [h.fuse]
  split
  · exact h
  · exact ⟨h.fs, rfl, rfl⟩
theorem Alike.oper {D E : Dsk} (h : Alike D E) {k k' : Dsk → Dsk} (hk : ∀ B C, Alike B C → B.fs = D.fs → C.fs = E.fs → Alike (k B) (k' C)) : (operD D k).1 = (operD E k').1 ∧ Alike (operD D k).2 (operD E k').2 := by
  have hb := h.burn
  unfold operD
  rw [hb.off]
  split
  · exact ⟨rfl, hb⟩
  · exact ⟨rfl, hk _ _ hb (burn_fs D) (burn_fs E)⟩
theorem Alike.ins {D E : Dsk} (h : Alike D E) {f g : Fil} (hc : cnt f = cnt g) (n : Str) : Alike { D with fs := disk.ins n f D.fs } { E with fs := disk.ins n g E.fs } :=
  ⟨by show cfs (disk.ins n f D.fs) = cfs (disk.ins n g E.fs); rw [ins_cfs, ins_cfs, hc, h.fs], h.off, h.fuse⟩
theorem Alike.del {D E : Dsk} (h : Alike D E) (n : Str) : Alike { D with fs := disk.del n D.fs } { E with fs := disk.del n E.fs } :=
  ⟨by show cfs (disk.del n D.fs) = cfs (disk.del n E.fs); rw [del_cfs, del_cfs, h.fs], h.off, h.fuse⟩

theorem Alike.on {D E : Dsk} (h : Alike D E) (n : Str) {k k' : Fil → Dsk → Dsk} (hk : ∀ f g B C, cnt f = cnt g → Alike B C → B.fs = D.fs → C.fs = E.fs → Alike (k f B) (k' g C)) : (onD D n k).1 = (onD E n k').1 ∧ Alike (onD D n k).2 (onD E n k').2 := by
  unfold onD
  rw [h.off]
  split
  · exact ⟨rfl, h⟩
  · have hl := h.lk n
    cases h1 : Ahs.lk D.fs n with
    | none =>
      cases h2 : Ahs.lk E.fs n with
      | none => exact ⟨rfl, h⟩
      | some g => rw [h1, h2] at hl; simp at hl
    | some f =>
      cases h2 : Ahs.lk E.fs n with
      | none => rw [h1, h2] at hl; simp at hl
      | some g =>
        rw [h1, h2] at hl; simp at hl
        exact h.oper fun B C hB e1 e2 => hk f g B C hl hB e1 e2

theorem Alike.getD {D E : Dsk} (h : Alike D E) (n : Str) : cnt ((Ahs.lk D.fs n).getD noFil) = cnt ((Ahs.lk E.fs n).getD noFil) := by
  have hl := h.lk n
  cases h1 : Ahs.lk D.fs n <;> cases h2 : Ahs.lk E.fs n <;> rw [h1, h2] at hl <;> simp at hl ⊢
  exact hl

theorem Alike.append {D E : Dsk} (h : Alike D E) (n r s : Str) (hrs : r = [] ↔ s = []) : (appendD D n r).1 = (appendD E n s).1 ∧ Alike (appendD D n r).2 (appendD E n s).2 := by
  have hg := h.getD n
  have hg' := hg
  simp only [cnt, Prod.mk.injEq] at hg'
  unfold appendD
  by_cases h0 : E.off = true
  · simp only [h.off, h0, if_true]; exact ⟨trivial, h⟩
  by_cases hr : rightN n = false ∨ r = []
  · have hs := hr.imp id hrs.1
    simp only [h.off, h0, hr, hs, if_true, if_false]; exact ⟨rfl, h⟩
  have hs : ¬ (rightN n = false ∨ s = []) := fun q => hr (q.imp id hrs.2)
  by_cases hc : ((Ahs.lk E.fs n).getD noFil).cut = true
  · simp only [h.off, h0, hr, hs, hg'.2.2, hc, if_true, if_false]; exact ⟨rfl, h⟩
  simp only [h.off, h0, hr, hs, hg'.2.2, hc, if_true, if_false]
  refine h.oper fun B C hB e1 e2 => hB.ins ?_ n
  simp only [cnt, List.length_append, List.length_singleton, Prod.mk.injEq]
  exact ⟨by rw [hg'.1], hg'.2.1, by first | trivial | exact hg'.2.2⟩

theorem crash_cfs {keep torn : List Int} : ∀ {k : Nat} {fs gs : Fs}, cfs fs = cfs gs → cfs (crashFs keep torn k fs) = cfs (crashFs keep torn k gs)
  | k, [], [], _ => rfl
  | k, [], y :: ys, h => by simp [cfs] at h
  | k, x :: xs, [], h => by simp [cfs] at h
  | k, x :: xs, y :: ys, h => by
    simp only [cfs, List.map_cons, List.cons.injEq, Prod.mk.injEq, cnt] at h
    obtain ⟨⟨h1, h2, h3, h4⟩, h5⟩ := h
    unfold crashFs
    rw [h2, h3]
    split
    · have := crash_cfs (keep := keep) (torn := torn) (k := k + 1) (fs := xs) (gs := ys) h5
      have hk : keptF x.2 keep k = keptF y.2 keep k := by unfold keptF keepN; rw [h2, h3]
      simp only [cfs, List.map_cons, cnt, leftF, List.length_take, hk, h2, h4, h1] at this ⊢
      rw [this]
    · have := crash_cfs (keep := keep) (torn := torn) (k := k) (fs := xs) (gs := ys) h5
      simp only [cfs, List.map_cons, cnt, h1, h2, h3, h4] at this ⊢
      rw [this]

/-- The other act: with another text, or none where there was none. -/
def Other (x y : PAct) : Prop := y.act = x.act ∧ y.a = x.a ∧ y.n = x.n ∧ y.keep = x.keep ∧ y.torn = x.torn ∧ (x.act ≠ 0 → y.b = x.b) ∧ (x.act = 0 → (x.b = [] ↔ y.b = []))

theorem Alike.does {D E : Dsk} (h : Alike D E) {x y : PAct} (ho : Other x y) (h4 : x.act ≠ 4) : (doesD D x).1.2 = (doesD E y).1.2 ∧ Alike (doesD D x).2 (doesD E y).2 := by
  obtain ⟨o1, o2, o3, o4, o5, o6, o7⟩ := ho
  unfold doesD
  rw [o1, o2, o3, o4, o5]
  split
  · rename_i h0
    exact h.append _ _ _ (o7 h0)
  rename_i h0
  rw [o6 h0]
  split
  · refine h.on _ fun f g B C hc hB e1 e2 => hB.ins ?_ _
    simp only [cnt, Prod.mk.injEq] at hc ⊢
    exact ⟨hc.1, hc.1, hc.2.2⟩
  split
  · unfold renameD
    rw [h.off]
    split
    · exact ⟨rfl, h⟩
    split
    · exact ⟨rfl, h⟩
    exact h.on _ fun f g B C hc hB e1 e2 => (hB.del _).ins hc _
  split
  · exact h.on _ fun f g B C hc hB e1 e2 => hB.del _
  split
  · exact ⟨rfl, h.fs, h.off, rfl⟩
  split
  · exact ⟨rfl, crash_cfs h.fs, rfl, h.fuse⟩
  split
  · exact ⟨rfl, h.fs, rfl, h.fuse⟩
  · exact ⟨rfl, h⟩

/-! ## DiskBegins -/

theorem begins_file {K : Nat} {f : Fil} (h : FilOK K f) {keep torn : List Int} {j : Nat} {g : Fil} (hg : g = if f.syn < f.recs.length then leftF f keep torn j else f) :
    bytesF g <+: bytesF f ∧ g.recs.length ≤ f.recs.length ∧ g.syn = g.recs.length ∧ (g.recs.length < f.recs.length → bytesF g ≠ bytesF f) ∧ (g.cut = false → g.torn = []) := by
  have hsyn := crash_syn h (keep := keep) (torn := torn) (j := j)
  rw [← hg] at hsyn
  by_cases hs : f.syn < f.recs.length
  · rw [if_pos hs] at hg
    have hgo := leftF_ok h hs keep torn j
    rw [← hg] at hgo
    have hc : f.cut = false := by
      cases hcc : f.cut with
      | false => rfl
      | true => have := h.cutS hcc; omega
    have ht := h.torn hc
    have hl := keptF_le h.syn keep j
    have hgr : g.recs = f.recs.take (keptF f keep j) := by rw [hg]; rfl
    have hgl : g.recs.length = keptF f keep j := by rw [hgr, List.length_take]; omega
    have hgt : g.torn = tornF f keep torn j := by rw [hg]; rfl
    have key : keptF f keep j < f.recs.length → bytesF g <+: bytesF f ∧ (bytesF g).length < (bytesF f).length := by
      intro hlt
      have hsplit : f.recs.flatten = (f.recs.take (keptF f keep j)).flatten ++ (f.recs[keptF f keep j] ++ (f.recs.drop (keptF f keep j + 1)).flatten) := by
        conv => lhs; rw [← List.take_append_drop (keptF f keep j) f.recs, List.drop_eq_getElem_cons hlt, List.flatten_append, List.flatten_cons]
      have hne : f.recs[keptF f keep j] ≠ [] := h.ne _ (List.getElem_mem hlt)
      have hpos : 0 < f.recs[keptF f keep j].length := List.length_pos_iff.2 hne
      have htn : g.torn <+: f.recs[keptF f keep j] ∧ g.torn.length < f.recs[keptF f keep j].length := by
        rw [hgt]
        unfold tornF
        rw [List.getElem?_eq_getElem hlt]
        split
        · rename_i r t e1 e2
          simp at e1
          subst e1
          refine ⟨List.take_prefix _ _, ?_⟩
          have := Int.emod_lt_of_pos t (show (0 : Int) < (f.recs[keptF f keep j].length : Int) by omega)
          have := Int.emod_nonneg t (show (f.recs[keptF f keep j].length : Int) ≠ 0 by omega)
          rw [List.length_take]; omega
        · rw [ht]; exact ⟨List.nil_prefix, by simpa using hpos⟩
      unfold bytesF
      rw [hgr, ht, List.append_nil, hsplit]
      obtain ⟨t, ht2⟩ := htn.1
      refine ⟨⟨t ++ (f.recs.drop (keptF f keep j + 1)).flatten, by rw [← ht2]; simp⟩, ?_⟩
      simp only [List.length_append]
      have := htn.2
      omega
    refine ⟨?_, by omega, hsyn, fun hlt e => ?_, hgo.torn⟩
    · rcases Nat.lt_or_ge (keptF f keep j) f.recs.length with hlt | hge
      · exact (key hlt).1
      · have e : bytesF g = bytesF f := by
          unfold bytesF
          rw [hgr, hgt, List.take_of_length_le (by omega)]
          unfold tornF
          rw [List.getElem?_eq_none (by omega)]
        rw [e]; exact List.prefix_refl _
    · have := (key (by omega)).2
      rw [e] at this
      omega
  · rw [if_neg hs] at hg
    subst hg
    exact ⟨List.prefix_refl _, Nat.le_refl _, hsyn, fun h => by omega, h.torn⟩


/-! What the functions of the disk come to: contracts. First part. -/

abbrev ptr (b : Nat) : AVal := .ptr (some (b, 0))
def encR (rs : List Str) : List (List AVal) := rs.map fun r => [.str r]

/-- A file, as a map's element; M: the blocks that are written. -/
def FilAt (M : Nat → Prop) (H : Heap) (v : AVal) (f : Fil) : Prop :=
  ∃ s, v = .agg [s, .int .i64 (f.syn : Int), .bool f.cut, .str f.torn] ∧ Fz H 1 s (encR f.recs) ∧ ∀ c, slBlk s = some c → ¬ M c

structure DiskAt (M : Nat → Prop) (H : Heap) (b m : Nat) (D : Dsk) : Prop where
  cells : H.cells b = some [.map (some m), .bool D.off, .int .i64 (D.fuse : Int)]
  map : MapAt strK H m (FilAt M H) D.fs

/-- Its own blocks. -/
def dft (b m c : Nat) : Prop := c = b ∨ c = m

section
variable {M : Nat → Prop} {H : Heap} {b m : Nat} {D : Dsk}

theorem FilAt.frame {S : Nat → Prop} {H' : Heap} {v : AVal} {f : Fil} (h : FilAt M H v f) (hf : Fram S H H') (hs : ∀ c, S c → M c) : FilAt M H' v f := by
  obtain ⟨s, h1, h2, h3⟩ := h
  exact ⟨s, h1, h2.frame hf (fun c hc e => h3 c hc (hs c e)), h3⟩

theorem DiskAt.ne (h : DiskAt M H b m D) : b ≠ m := by
  intro e
  obtain ⟨vs, clk, h1, _⟩ := h.map.ex
  have := Heap.cells_eq.1 h.cells
  rw [e, h1] at this
  simp at this
theorem DiskAt.ltb (h : DiskAt M H b m D) : b < H.next := Heap.cells_lt h.cells
theorem DiskAt.ltm (h : DiskAt M H b m D) : m < H.next := h.map.lt

theorem DiskAt.frame {S : Nat → Prop} {H' : Heap} (h : DiskAt M H b m D) (hf : Fram S H H') (hb : ¬ S b) (hm : ¬ S m) (hs : ∀ c, S c → M c) : DiskAt M H' b m D :=
  ⟨hf.cells h.cells hb, h.map.mono (hf.get m h.ltm hm) fun k v a _ hR => hR.frame hf hs⟩
theorem DiskAt.keep {H' : Heap} (h : DiskAt M H b m D) (hk : Keeps2 H H') : DiskAt M H' b m D := h.frame (S := fun _ => False) (.of hk) (fun e => e) (fun e => e) (fun _ e => e.elim)

/-- More blocks may be written, that are not the files'. -/
theorem DiskAt.more {M' : Nat → Prop} (h : DiskAt M H b m D) (hM : ∀ c, c < H.next → M' c → M c) : DiskAt M' H b m D :=
  ⟨h.cells, h.map.mono rfl fun k v a _ hR => by
    obtain ⟨s, h1, h2, h3⟩ := hR
    exact ⟨s, h1, h2, fun c hc e => h3 c hc (hM c (h2.lt c hc) e)⟩⟩

/-- The disk's own cells are written. -/
theorem DiskAt.setb (h : DiskAt M H b m D) (hMb : M b) {D' : Dsk} (hfs : D'.fs = D.fs) : DiskAt M (H.set b (.cells [.map (some m), .bool D'.off, .int .i64 (D'.fuse : Int)])) b m D' := by
  refine ⟨cells_set_same h.ltb, ?_⟩
  rw [hfs]
  exact h.map.mono (Heap.get_set_other _ _ _ _ (Ne.symm h.ne)) fun k v a _ hR => hR.frame (Fram.set (S := fun c => c = b) rfl) (fun c e => by rw [e]; exact hMb)

theorem none_c {n lim : Nat} (h : DiskAt M H b m D) : Ahs.runT ap (n + 1) lim (.fn 79) [ptr b] H = some (.bool false, H) := by
  refine run_eqn (F79_run a79 ?_)
  unfold F79
  (repeat (first | (with_reducible apply bindP_intro; (focus (first | with_reducible rfl | (simp only [walkR, get0, getS, Nat.zero_add, Nat.add_zero, Bool.not_true, Bool.not_false, decide_true, decide_false, reduceIte, and_self, Bool.false_eq_true, aload_one h.cells, eqvO_mapS] <;> with_reducible rfl)))) | (with_reducible apply bind2_intro; (focus (first | with_reducible rfl | (simp only [walkR, get0, getS, Nat.zero_add, Nat.add_zero, Bool.not_true, Bool.not_false, decide_true, decide_false, reduceIte, and_self, Bool.false_eq_true, aload_one h.cells, eqvO_mapS] <;> with_reducible rfl)))) | with_reducible apply cond_t | with_reducible apply cond_f))
  exact ⟨rfl, rfl⟩

def powerI (D : Dsk) : Int := if D.off = true then 7 else 0

theorem power_c {n lim : Nat} (h : DiskAt M H b m D) : Ahs.runT ap (n + 2) lim (.fn 82) [ptr b] H = some (.int .i64 (powerI D), H) := by
  refine run_eqn (F82_run a82 ?_)
  unfold F82 powerI
  cases ho : D.off with
  | true =>
    (repeat (first | (with_reducible apply bindP_intro; (focus (first | with_reducible rfl | (simp only [walkR, get0, getS, Nat.zero_add, Nat.add_zero, Bool.not_true, Bool.not_false, decide_true, decide_false, reduceIte, and_self, Bool.false_eq_true, none_c h, aload_one h.cells, ho, boolOf_b] <;> with_reducible rfl)))) | (with_reducible apply bind2_intro; (focus (first | with_reducible rfl | (simp only [walkR, get0, getS, Nat.zero_add, Nat.add_zero, Bool.not_true, Bool.not_false, decide_true, decide_false, reduceIte, and_self, Bool.false_eq_true, none_c h, aload_one h.cells, ho, boolOf_b] <;> with_reducible rfl)))) | with_reducible apply cond_t | with_reducible apply cond_f))
    exact ⟨rfl, rfl⟩
  | false =>
    (repeat (first | (with_reducible apply bindP_intro; (focus (first | with_reducible rfl | (simp only [walkR, get0, getS, Nat.zero_add, Nat.add_zero, Bool.not_true, Bool.not_false, decide_true, decide_false, reduceIte, and_self, Bool.false_eq_true, none_c h, aload_one h.cells, ho, boolOf_b] <;> with_reducible rfl)))) | (with_reducible apply bind2_intro; (focus (first | with_reducible rfl | (simp only [walkR, get0, getS, Nat.zero_add, Nat.add_zero, Bool.not_true, Bool.not_false, decide_true, decide_false, reduceIte, and_self, Bool.false_eq_true, none_c h, aload_one h.cells, ho, boolOf_b] <;> with_reducible rfl)))) | with_reducible apply cond_t | with_reducible apply cond_f))
    exact ⟨rfl, rfl⟩

/-- What an operation that changes a disk has done. -/
structure DOut (M : Nat → Prop) (H : Heap) (b m : Nat) (e : Int) (D' : Dsk) (v : AVal) (H' : Heap) : Prop where
  v : v = .int .i64 e
  at' : DiskAt M H' b m D'
  fr : Fram (dft b m) H H'

theorem burns_c {n lim : Nat} (h : DiskAt M H b m D) (hMb : M b) (hlb : lim ≤ b) (hf : D.fuse < 9223372036854775808) :
    ∃ v H', Ahs.runT ap (n + 3) lim (.fn 86) [ptr b] H = some (v, H') ∧ DOut M H b m (powerI (burn D)) (burn D) v H' := by
  refine F86_run a86 ?_
  unfold F86
  by_cases h0 : D.fuse = 0
  · have hd : decide ((0 : Int) < ((D.fuse : Nat) : Int)) = false := dF (by omega)
    have hb : burn D = D := by unfold burn; rw [if_pos h0]
    (repeat (first | (with_reducible apply bindP_intro; (focus (first | with_reducible rfl | (simp only [walkR, get0, getS, Nat.zero_add, Nat.add_zero, Bool.not_true, Bool.not_false, decide_true, decide_false, reduceIte, and_self, Bool.false_eq_true, aload_one h.cells, hd] <;> with_reducible rfl)))) | (with_reducible apply bind2_intro; (focus (first | with_reducible rfl | (simp only [walkR, get0, getS, Nat.zero_add, Nat.add_zero, Bool.not_true, Bool.not_false, decide_true, decide_false, reduceIte, and_self, Bool.false_eq_true, aload_one h.cells, hd] <;> with_reducible rfl)))) | with_reducible apply cond_t | with_reducible apply cond_f))
    unfold F86_j0
    (repeat (first | (with_reducible apply bindP_intro; (focus (first | with_reducible rfl | (simp only [walkR, get0, getS, Nat.zero_add, Nat.add_zero, Bool.not_true, Bool.not_false, decide_true, decide_false, reduceIte, and_self, Bool.false_eq_true, power_c h] <;> with_reducible rfl)))) | (with_reducible apply bind2_intro; (focus (first | with_reducible rfl | (simp only [walkR, get0, getS, Nat.zero_add, Nat.add_zero, Bool.not_true, Bool.not_false, decide_true, decide_false, reduceIte, and_self, Bool.false_eq_true, power_c h] <;> with_reducible rfl)))) | with_reducible apply cond_t | with_reducible apply cond_f))
    rw [hb]
    exact ⟨rfl, h, .refl _ _⟩
  · have hd : decide ((0 : Int) < ((D.fuse : Nat) : Int)) = true := dT (by omega)
    have hb : burn D = { D with fuse := D.fuse - 1, off := decide (D.fuse = 1) } := by unfold burn; rw [if_neg h0]
    have hw : IntKind.i64.wrap (((D.fuse : Nat) : Int) - 1) = ((D.fuse - 1 : Nat) : Int) := by rw [wrap_i64 (by omega) (by omega)]; omega
    have s1 : astore lim H 1 (.ptr (some (b, 2))) (.int .i64 ((D.fuse - 1 : Nat) : Int)) = some (H.set b (.cells [.map (some m), .bool D.off, .int .i64 ((D.fuse - 1 : Nat) : Int)])) := astore_cell h.cells hlb rfl rfl (by show 2 < 3; omega) rfl
    have c1 : (H.set b (.cells [.map (some m), .bool D.off, .int .i64 ((D.fuse - 1 : Nat) : Int)])).cells b = some [.map (some m), .bool D.off, .int .i64 ((D.fuse - 1 : Nat) : Int)] := cells_set_same h.ltb
    have hq : (((D.fuse - 1 : Nat) : Int) == 0) = decide (D.fuse = 1) := by
      rw [Bool.eq_iff_iff]; simp; omega
    have s2 : astore lim (H.set b (.cells [.map (some m), .bool D.off, .int .i64 ((D.fuse - 1 : Nat) : Int)])) 1 (.ptr (some (b, 1))) (.bool (decide (D.fuse = 1))) = some (H.set b (.cells [.map (some m), .bool (decide (D.fuse = 1)), .int .i64 ((D.fuse - 1 : Nat) : Int)])) := by
      rw [astore_cell (cs' := [.map (some m), .bool (decide (D.fuse = 1)), .int .i64 ((D.fuse - 1 : Nat) : Int)]) c1 hlb rfl rfl (by show 1 < 3; omega) rfl]
      simp only [Heap.set, Tr.set_set]
    have h2 : DiskAt M (H.set b (.cells [.map (some m), .bool (decide (D.fuse = 1)), .int .i64 ((D.fuse - 1 : Nat) : Int)])) b m (burn D) := by
      have := h.setb (D' := burn D) hMb (burn_fs D)
      rw [hb] at this ⊢
      exact this
    (repeat (first | (with_reducible apply bindP_intro; (focus (first | with_reducible rfl | (simp only [walkR, get0, getS, Nat.zero_add, Nat.add_zero, Bool.not_true, Bool.not_false, decide_true, decide_false, reduceIte, and_self, Bool.false_eq_true, aload_one h.cells, hd, hw, s1, aload_one c1, hq, s2] <;> with_reducible rfl)))) | (with_reducible apply bind2_intro; (focus (first | with_reducible rfl | (simp only [walkR, get0, getS, Nat.zero_add, Nat.add_zero, Bool.not_true, Bool.not_false, decide_true, decide_false, reduceIte, and_self, Bool.false_eq_true, aload_one h.cells, hd, hw, s1, aload_one c1, hq, s2] <;> with_reducible rfl)))) | with_reducible apply cond_t | with_reducible apply cond_f))
    unfold F86_j0
    (repeat (first | (with_reducible apply bindP_intro; (focus (first | with_reducible rfl | (simp only [walkR, get0, getS, Nat.zero_add, Nat.add_zero, Bool.not_true, Bool.not_false, decide_true, decide_false, reduceIte, and_self, Bool.false_eq_true, power_c h2] <;> with_reducible rfl)))) | (with_reducible apply bind2_intro; (focus (first | with_reducible rfl | (simp only [walkR, get0, getS, Nat.zero_add, Nat.add_zero, Bool.not_true, Bool.not_false, decide_true, decide_false, reduceIte, and_self, Bool.false_eq_true, power_c h2] <;> with_reducible rfl)))) | with_reducible apply cond_t | with_reducible apply cond_f))
    exact ⟨rfl, h2, .set (.inl rfl)⟩

theorem right_c {n lim : Nat} {s : Str} : Ahs.runT ap (n + 1) lim (.fn 85) [.str s] H = some (.bool (rightN s), H) := by
  refine run_eqn (F85_run a85 ?_)
  unfold F85 rightN
  have hne : (!(s == ([] : List UInt8))) = decide (s ≠ []) := by
    cases s <;> simp
  by_cases h0 : s = []
  · subst h0
    have he : (([] : List UInt8) == []) = true := rfl
    (repeat (first | (with_reducible apply bindP_intro; (focus (first | with_reducible rfl | (simp only [walkR, get0, getS, Nat.zero_add, Nat.add_zero, Bool.not_true, Bool.not_false, decide_true, decide_false, reduceIte, and_self, Bool.false_eq_true, he] <;> with_reducible rfl)))) | (with_reducible apply bind2_intro; (focus (first | with_reducible rfl | (simp only [walkR, get0, getS, Nat.zero_add, Nat.add_zero, Bool.not_true, Bool.not_false, decide_true, decide_false, reduceIte, and_self, Bool.false_eq_true, he] <;> with_reducible rfl)))) | with_reducible apply cond_t | with_reducible apply cond_f))
    exact ⟨rfl, rfl⟩
  · have hd : decide (s ≠ []) = true := dT h0
    have hl : decide ((s.length : Int) ≤ 32) = decide (s.length ≤ 32) := by
      rw [Bool.eq_iff_iff]; simp; omega
    (repeat (first | (with_reducible apply bindP_intro; (focus (first | with_reducible rfl | (simp only [walkR, get0, getS, Nat.zero_add, Nat.add_zero, Bool.not_true, Bool.not_false, decide_true, decide_false, reduceIte, and_self, Bool.false_eq_true, hne, hd, hl] <;> with_reducible rfl)))) | (with_reducible apply bind2_intro; (focus (first | with_reducible rfl | (simp only [walkR, get0, getS, Nat.zero_add, Nat.add_zero, Bool.not_true, Bool.not_false, decide_true, decide_false, reduceIte, and_self, Bool.false_eq_true, hne, hd, hl] <;> with_reducible rfl)))) | with_reducible apply cond_t | with_reducible apply cond_f))
    rw [hd]
    exact ⟨rfl, rfl⟩

theorem clip_c {n lim : Nat} {s : AVal} {xs : List (List AVal)} (h : Fz H 1 s xs) : ∃ s', Ahs.runT ap (n + 1) lim (.fn 87) [s] H = some (s', H) ∧ Fz H 1 s' xs ∧ Full s' ∧ slBlk s' = slBlk s := by
  obtain ⟨s', h1, h2, h3, h4⟩ := h.clip
  refine ⟨s', ?_, h2, h3, h4⟩
  refine run_eqn (F87_run a87 ?_)
  unfold F87
  (repeat (first | (with_reducible apply bindP_intro; (focus (first | with_reducible rfl | (simp only [walkR, get0, getS, Nat.zero_add, Nat.add_zero, Bool.not_true, Bool.not_false, decide_true, decide_false, reduceIte, and_self, Bool.false_eq_true, h.sl.len, h1] <;> with_reducible rfl)))) | (with_reducible apply bind2_intro; (focus (first | with_reducible rfl | (simp only [walkR, get0, getS, Nat.zero_add, Nat.add_zero, Bool.not_true, Bool.not_false, decide_true, decide_false, reduceIte, and_self, Bool.false_eq_true, h.sl.len, h1] <;> with_reducible rfl)))) | with_reducible apply cond_t | with_reducible apply cond_f))
  exact ⟨rfl, rfl⟩

theorem encR_len (rs : List Str) : (encR rs).length = rs.length := by unfold encR; simp
theorem encR_app (rs ss : List Str) : encR (rs ++ ss) = encR rs ++ encR ss := by unfold encR; simp
theorem encR_one (r : Str) : encR [r] = [[.str r]] := rfl
theorem encR_take (rs : List Str) (k : Nat) : encR (rs.take k) = (encR rs).take k := by unfold encR; rw [List.map_take]

/-- The file under a name, looked up. -/
theorem DiskAt.look (h : DiskAt M H b m D) (n : Str) : ∃ v ok, FilAt M H v ((lk D.fs n).getD noFil) ∧ ok = (lk D.fs n).isSome ∧
    ∀ c, alookup H false [.str] (.agg [.sl none 0 (.ex 0), .int .i64 0, .bool false, .str []]) c (.map (some m)) (.str n) = some (if c = true then .tup [v, .bool ok] else v) := by
  cases hl : lk D.fs n with
  | none => exact ⟨_, false, ⟨_, rfl, Fz.nil H 1, fun c hc => by simp [slBlk] at hc⟩, rfl, h.map.lookup_none hl _⟩
  | some f =>
    obtain ⟨v, h1, h2⟩ := h.map.lookup_some hl (.agg [.sl none 0 (.ex 0), .int .i64 0, .bool false, .str []])
    exact ⟨v, true, h1, rfl, h2⟩

/-- A file is laid under a name. -/
theorem DiskAt.put {lim : Nat} (h : DiskAt M H b m D) (hMm : M m) (hlm : lim ≤ m) (hA : Asc D.fs) (n : Str) {v : AVal} {f : Fil} (hv : FilAt M H v f) :
    ∃ H', amapUpdate lim H false [.str] (.map (some m)) (.str n) v = some H' ∧ DiskAt M H' b m { D with fs := ins n f D.fs } ∧ Fram (dft b m) H H' := by
  obtain ⟨x, h1, h2⟩ := h.map.update hlm n hv
  have hfr : Fram (fun c => c = m) H (H.set m x) := .set rfl
  refine ⟨_, h1, ⟨?_, ?_⟩, hfr.weaken fun c _ e => .inr e⟩
  · exact cells_set_other h.cells h.ne
  · exact (h2 _ (ins_put hA)).mono rfl fun k v a _ hR => hR.frame hfr fun c e => by rw [e]; exact hMm

theorem DiskAt.delete {lim : Nat} (h : DiskAt M H b m D) (hMm : M m) (hlm : lim ≤ m) (hA : Asc D.fs) (n : Str) :
    ∃ H', amapDelete lim H false [.str] (.map (some m)) (.str n) = some H' ∧ DiskAt M H' b m { D with fs := del n D.fs } ∧ Fram (dft b m) H H' := by
  obtain ⟨x, h1, h2⟩ := h.map.delete hlm n
  have hfr : Fram (fun c => c = m) H (H.set m x) := .set rfl
  refine ⟨_, h1, ⟨?_, ?_⟩, hfr.weaken fun c _ e => .inr e⟩
  · exact cells_set_other h.cells h.ne
  · exact (h2 _ (del_del hA)).mono rfl fun k v a _ hR => hR.frame hfr fun c e => by rw [e]; exact hMm

theorem filAt_cells {v : AVal} {f : Fil} (h : FilAt M H v f) : v.cells.length = 4 ∧ v.cells.all (·.one) = true := by
  obtain ⟨s, rfl, h2, _⟩ := h
  exact ⟨rfl, by simp only [AVal.cells, List.all_cons, List.all_nil, h2.one.1, Bool.and_true]; rfl⟩

theorem append_c {n lim K : Nat} (h : DiskAt M H b m D) (hD : DskOK K D) (hK : K ≤ 1000000000000) (hMb : M b) (hMm : M m) (hlb : lim ≤ b) (hlm : lim ≤ m) (hM : ∀ c, H.next ≤ c → ¬ M c) (name r : Str) :
    ∃ v H', Ahs.runT ap (n + 4) lim (.fn 48) [ptr b, .str name, .str r] H = some (v, H') ∧ DOut M H b m (appendD D name r).1 (appendD D name r).2 v H' := by
  refine F48_run a48 ?_
  unfold F48 appendD
  have hlt := h.ltb
  have hltm := h.ltm
  cases ho : D.off with
  | true =>
    have hp : powerI D = 7 := by unfold powerI; rw [ho]; rfl
    have hq : ((7 : Int) != 0) = true := rfl
    (repeat (first | (with_reducible apply bindP_intro; (focus (first | with_reducible rfl | (simp only [walkR, get0, getS, Nat.zero_add, Nat.add_zero, Bool.not_true, Bool.not_false, decide_true, decide_false, reduceIte, and_self, Bool.false_eq_true, power_c h, hp, hq] <;> with_reducible rfl)))) | (with_reducible apply bind2_intro; (focus (first | with_reducible rfl | (simp only [walkR, get0, getS, Nat.zero_add, Nat.add_zero, Bool.not_true, Bool.not_false, decide_true, decide_false, reduceIte, and_self, Bool.false_eq_true, power_c h, hp, hq] <;> with_reducible rfl)))) | with_reducible apply cond_t | with_reducible apply cond_f))
    exact ⟨rfl, h, .refl _ _⟩
  | false =>
    have hp : powerI D = 0 := by unfold powerI; rw [ho]; rfl
    obtain ⟨v, ok, hv, _, hlk⟩ := h.look name
    have hlk' := hlk false
    obtain ⟨s, rfl, hs1, hs2⟩ := hv
    generalize hf0 : (lk D.fs name).getD noFil = f at *
    have hso := hs1.one
    have st : ∀ z : List AVal, z.length = 4 → astore lim (H.push (.cells z)) 4 (.ptr (some (H.next, 0))) (.agg [s, .int .i64 (f.syn : Int), .bool f.cut, .str f.torn]) = some (H.push (.cells [s, .int .i64 (f.syn : Int), .bool f.cut, .str f.torn])) := fun z hz =>
      astore_new (x := .agg [s, .int .i64 (f.syn : Int), .bool f.cut, .str f.torn]) (by omega) rfl hz (by simp only [AVal.cells, List.all_cons, List.all_nil, hso.1, Bool.and_true]; rfl)
    have st := st ze3a7c2 rfl
    simp only [Bool.false_eq_true, if_false]
    by_cases hr : rightN name = false ∨ r = []
    · rw [if_pos hr]
      have hx : Keeps2 H (H.push (.cells [s, .int .i64 (f.syn : Int), .bool f.cut, .str f.torn])) := .push _ _
      cases hn : rightN name with
      | false =>
        (repeat (first | (with_reducible apply bindP_intro; (focus (first | with_reducible rfl | (simp only [walkR, get0, getS, Nat.zero_add, Nat.add_zero, Bool.not_true, Bool.not_false, decide_true, decide_false, reduceIte, and_self, Bool.false_eq_true, power_c h, hp, ne00, aload_one h.cells, hlk', st, right_c, hn] <;> with_reducible rfl)))) | (with_reducible apply bind2_intro; (focus (first | with_reducible rfl | (simp only [walkR, get0, getS, Nat.zero_add, Nat.add_zero, Bool.not_true, Bool.not_false, decide_true, decide_false, reduceIte, and_self, Bool.false_eq_true, power_c h, hp, ne00, aload_one h.cells, hlk', st, right_c, hn] <;> with_reducible rfl)))) | with_reducible apply cond_t | with_reducible apply cond_f))
        exact ⟨rfl, h.keep hx, .of hx⟩
      | true =>
        have hr0 : r = [] := by rcases hr with e | e
                                · rw [hn] at e; simp at e
                                · exact e
        subst hr0
        have he : (([] : List UInt8) == []) = true := rfl
        (repeat (first | (with_reducible apply bindP_intro; (focus (first | with_reducible rfl | (simp only [walkR, get0, getS, Nat.zero_add, Nat.add_zero, Bool.not_true, Bool.not_false, decide_true, decide_false, reduceIte, and_self, Bool.false_eq_true, power_c h, hp, ne00, aload_one h.cells, hlk', st, right_c, hn, he] <;> with_reducible rfl)))) | (with_reducible apply bind2_intro; (focus (first | with_reducible rfl | (simp only [walkR, get0, getS, Nat.zero_add, Nat.add_zero, Bool.not_true, Bool.not_false, decide_true, decide_false, reduceIte, and_self, Bool.false_eq_true, power_c h, hp, ne00, aload_one h.cells, hlk', st, right_c, hn, he] <;> with_reducible rfl)))) | with_reducible apply cond_t | with_reducible apply cond_f))
        exact ⟨rfl, h.keep hx, .of hx⟩
    · rw [if_neg hr]
      have hn : rightN name = true := by
        cases hn : rightN name with
        | true => rfl
        | false => exact absurd (Or.inl hn) hr
      have hr0 : (r == ([] : List UInt8)) = false := by
        cases r with
        | nil => exact absurd (Or.inr rfl) hr
        | cons a l => rfl
      have kx : Keeps2 H (H.push (.cells [s, .int .i64 (f.syn : Int), .bool f.cut, .str f.torn])) := .push _ _
      have h1 := (h.more (M' := fun c => M c ∨ c = H.next) (fun c hc e => by rcases e with e | e; exact e; omega)).keep kx
      have lx : ∀ o, aload (H.push (.cells [s, .int .i64 (f.syn : Int), .bool f.cut, .str f.torn])) none (.ptr (some (H.next, o))) = ([s, .int .i64 (f.syn : Int), .bool f.cut, .str f.torn] : List AVal)[o]? := fun o => aload_new1 _ _ _
      cases hc : f.cut with
      | true =>
        rw [hc] at lx st kx h1 hlk'
        (repeat (first | (with_reducible apply bindP_intro; (focus (first | with_reducible rfl | (simp only [walkR, get0, getS, Nat.zero_add, Nat.add_zero, Bool.not_true, Bool.not_false, decide_true, decide_false, reduceIte, and_self, Bool.false_eq_true, power_c h, hp, ne00, aload_one h.cells, hlk', st, right_c, hn, hr0, lx] <;> with_reducible rfl)))) | (with_reducible apply bind2_intro; (focus (first | with_reducible rfl | (simp only [walkR, get0, getS, Nat.zero_add, Nat.add_zero, Bool.not_true, Bool.not_false, decide_true, decide_false, reduceIte, and_self, Bool.false_eq_true, power_c h, hp, ne00, aload_one h.cells, hlk', st, right_c, hn, hr0, lx] <;> with_reducible rfl)))) | with_reducible apply cond_t | with_reducible apply cond_f))
        exact ⟨rfl, h1.more (fun c _ e => .inl e), .of kx⟩
      | false =>
        rw [hc] at lx st kx h1 hlk'
        obtain ⟨vb, H2, e1, e2, e3, e4⟩ := burns_c (n := n) (lim := lim) h1 (.inl hMb) hlb hD.fuse
        have hxc : H2.cells H.next = some [s, .int .i64 (f.syn : Int), .bool false, .str f.torn] := e4.cells (cells_push_new H _) (fun e => by rcases e with e | e <;> omega)
        have hHn2 : H.next < H2.next := Heap.cells_lt hxc
        have f02 : Fram (dft b m) H H2 := (Fram.of kx).trans e4 (fun c _ e => e)
        simp only [Bool.false_eq_true, if_false]
        unfold operD
        cases hbo : (burn D).off with
        | true =>
          have hp2 : powerI (burn D) = 7 := by unfold powerI; rw [hbo]; rfl
          have hq : ((7 : Int) != 0) = true := rfl
          rw [hp2] at e2
          subst e2
          (repeat (first | (with_reducible apply bindP_intro; (focus (first | with_reducible rfl | (simp only [walkR, get0, getS, Nat.zero_add, Nat.add_zero, Bool.not_true, Bool.not_false, decide_true, decide_false, reduceIte, and_self, Bool.false_eq_true, power_c h, hp, ne00, aload_one h.cells, hlk', st, right_c, hn, hr0, lx, e1, hq] <;> with_reducible rfl)))) | (with_reducible apply bind2_intro; (focus (first | with_reducible rfl | (simp only [walkR, get0, getS, Nat.zero_add, Nat.add_zero, Bool.not_true, Bool.not_false, decide_true, decide_false, reduceIte, and_self, Bool.false_eq_true, power_c h, hp, ne00, aload_one h.cells, hlk', st, right_c, hn, hr0, lx, e1, hq] <;> with_reducible rfl)))) | with_reducible apply cond_t | with_reducible apply cond_f))
          exact ⟨rfl, e3.more (fun c _ e => .inl e), f02⟩
        | false =>
          have hp2 : powerI (burn D) = 0 := by unfold powerI; rw [hbo]; rfl
          rw [hp2] at e2
          subst e2
          have hs2' : Fz H2 1 s (encR f.recs) := hs1.frame f02 fun c hc e => hs2 c hc (by rcases e with rfl | rfl <;> assumption)
          obtain ⟨s', c1, c2, c3, c4⟩ := clip_c (n := n + 2) (lim := lim) hs2'
          have hfl : fillV [.str []] [(0, 1, .str r)] = some [.str r] := rfl
          have k3 : Keeps2 H2 (H2.push (.cells [.str r])) := .push _ _
          have hfo := lk_ok hD name
          rw [hf0] at hfo
          have hmany := hfo.many
          have hsrc : source (H2.push (.cells [.str r])) 1 (.sl (some (H2.next, 0)) 1 (.ex 1)) = some (([[.str r]] : List (List AVal)).length, ([[.str r]] : List (List AVal)).flatten) := source_new H2 rfl (by decide)
          have hrm : room = 140737488355328 := rfl
          obtain ⟨d1, d2⟩ := (c2.keep k3).append (lim := lim) c3 (bytes := 16) (zero := [.str []]) (x := .sl (some (H2.next, 0)) 1 (.ex 1)) (ys := [[.str r]]) rfl (by decide) hsrc (fun y hy => by simp at hy; subst hy; exact ⟨rfl, rfl⟩) (by simp) (by rw [encR_len]; simp; omega) (by rw [encR_len]; simp; omega)
          have n3 : (H2.push (.cells [.str r])).next = H2.next + 1 := Heap.next_push _ _
          generalize hH4 : (H2.push (.cells [.str r])).push (.cells ((encR f.recs).flatten ++ [[AVal.str r]].flatten)) = H4 at d1 d2
          have k4 : Keeps2 H2 H4 := by rw [← hH4]; exact k3.trans (.push _ _)
          have x4 : H4.cells H.next = some [s, .int .i64 (f.syn : Int), .bool false, .str f.torn] := k4.cells hxc
          have s5 : astore lim H4 1 (.ptr (some (H.next, 0))) (.sl (some ((H2.push (.cells [.str r])).next, 0)) ((encR f.recs).length + [[AVal.str r]].length) (.op 1 0)) = some (H4.set H.next (.cells [.sl (some ((H2.push (.cells [.str r])).next, 0)) ((encR f.recs).length + [[AVal.str r]].length) (.op 1 0), .int .i64 (f.syn : Int), .bool false, .str f.torn])) :=
            astore_cell x4 (by omega) rfl rfl (by show 0 < 4; omega) rfl
          generalize hnv : (AVal.sl (some ((H2.push (.cells [.str r])).next, 0)) ((encR f.recs).length + [[AVal.str r]].length) (.op 1 0)) = nv at *
          have hnb : slBlk nv = some (H2.next + 1) := by rw [← hnv, n3]; rfl
          have hnn : (H4.set H.next (.cells [nv, .int .i64 (f.syn : Int), .bool false, .str f.torn])).next = H4.next := Heap.next_set _ _ _
          have f5 : Fram (fun c => c = H.next) H4 (H4.set H.next (.cells [nv, .int .i64 (f.syn : Int), .bool false, .str f.torn])) := .set rfl
          have h5 : DiskAt (fun c => M c ∨ c = H.next) (H4.set H.next (.cells [nv, .int .i64 (f.syn : Int), .bool false, .str f.torn])) b m (burn D) := (e3.keep k4).frame f5 (by omega) (by omega) (fun c e => .inr e)
          have v5 : FilAt (fun c => M c ∨ c = H.next) (H4.set H.next (.cells [nv, .int .i64 (f.syn : Int), .bool false, .str f.torn])) (.agg [nv, .int .i64 (f.syn : Int), .bool false, .str f.torn]) { f with recs := f.recs ++ [r] } := by
            refine ⟨nv, by simp [hc], ?_, fun c hcc e => ?_⟩
            · rw [encR_app, encR_one]
              exact d2.frame f5 (fun c hcc e => by rw [hnb] at hcc; simp at hcc; omega)
            · rw [hnb] at hcc; simp at hcc
              rcases e with e | e
              · exact hM c (by omega) e
              · omega
          obtain ⟨H6, u1, u2, u3⟩ := h5.put (lim := lim) (.inl hMm) hlm (by rw [burn_fs]; exact hD.asc) name v5
          have x5 : (H4.set H.next (.cells [nv, .int .i64 (f.syn : Int), .bool false, .str f.torn])).cells H.next = some [nv, .int .i64 (f.syn : Int), .bool false, .str f.torn] := cells_set_same (by have := k4.next; omega)
          (repeat (first | (with_reducible apply bindP_intro; (focus (first | with_reducible rfl | (simp only [walkR, get0, getS, Nat.zero_add, Nat.add_zero, Bool.not_true, Bool.not_false, decide_true, decide_false, reduceIte, and_self, Bool.false_eq_true, power_c h, hp, ne00, aload_one h.cells, hlk', st, right_c, hn, hr0, lx, e1, aload_one hxc, c1, hfl, d1, s5, aload_one h5.cells, aload_all (n := 4) x5 rfl, u1] <;> with_reducible rfl)))) | (with_reducible apply bind2_intro; (focus (first | with_reducible rfl | (simp only [walkR, get0, getS, Nat.zero_add, Nat.add_zero, Bool.not_true, Bool.not_false, decide_true, decide_false, reduceIte, and_self, Bool.false_eq_true, power_c h, hp, ne00, aload_one h.cells, hlk', st, right_c, hn, hr0, lx, e1, aload_one hxc, c1, hfl, d1, s5, aload_one h5.cells, aload_all (n := 4) x5 rfl, u1] <;> with_reducible rfl)))) | with_reducible apply cond_t | with_reducible apply cond_f))
          rw [hc] at u2
          exact ⟨rfl, u2.more (fun c _ e => .inl e), ((f02.trans (.of (S := dft b m) k4) (fun c _ e => e)).trans f5 (fun c hc e => by omega)).trans u3 (fun c _ e => e)⟩

end

/-! What the functions of the disk come to: contracts. Second part. -/

section
variable {M : Nat → Prop} {H : Heap} {b m : Nat} {D : Dsk}

theorem FilAt.more {M' : Nat → Prop} {v : AVal} {f : Fil} (h : FilAt M H v f) (hM : ∀ c, c < H.next → M' c → M c) : FilAt M' H v f := by
  obtain ⟨s, h1, h2, h3⟩ := h
  exact ⟨s, h1, h2, fun c hc e => h3 c hc (hM c (h2.lt c hc) e)⟩
theorem FilAt.keep {H' : Heap} {v : AVal} {f : Fil} (h : FilAt M H v f) (hk : Keeps2 H H') : FilAt M H' v f := h.frame (S := fun _ => False) (.of hk) fun _ e => e.elim

theorem onD_none {D : Dsk} (ho : D.off = false) {n : Str} (hl : lk D.fs n = none) (k : Fil → Dsk → Dsk) : onD D n k = (4, D) := by
  unfold onD; rw [if_neg (by rw [ho]; simp), hl]
theorem onD_some {D : Dsk} (ho : D.off = false) {n : Str} {f : Fil} (hl : lk D.fs n = some f) (k : Fil → Dsk → Dsk) : onD D n k = operD D (k f) := by
  unfold onD; rw [if_neg (by rw [ho]; simp), hl]
theorem onD_off {D : Dsk} (ho : D.off = true) (n : Str) (k : Fil → Dsk → Dsk) : onD D n k = (7, D) := by
  unfold onD; rw [if_pos ho]

/-- A file's value is laid in a block of its own. -/
theorem fil_st {lim : Nat} {H1 : Heap} (hl : lim ≤ H1.next) {v : AVal} {f : Fil} (hv : FilAt M H v f) : ∃ cs, v = .agg cs ∧ cs.length = 4 ∧ (cs.all fun v => v.one) = true ∧ astore lim (H1.push (.cells ze3a7c2)) 4 (.ptr (some (H1.next, 0))) v = some (H1.push (.cells cs)) := by
  obtain ⟨s, rfl, h2, h3⟩ := hv
  have ho : (([s, .int .i64 (f.syn : Int), .bool f.cut, .str f.torn] : List AVal).all fun v => v.one) = true := by
    simp only [List.all_cons, List.all_nil, h2.one.1, Bool.and_true]; rfl
  exact ⟨_, rfl, rfl, ho, astore_new (cs := ze3a7c2) (x := .agg [s, .int .i64 (f.syn : Int), .bool f.cut, .str f.torn]) hl rfl rfl ho⟩

theorem oper_c {n lim K g : Nat} {caps : List AVal} {name : Str} {k : Fil → Dsk → Dsk} (h : DiskAt M H b m D) (hD : DskOK K D) (hMb : M b) (hMm : M m) (hlb : lim ≤ b)
    (hdo : ∀ f v H5, FilAt M H5 v f → DiskAt M H5 b m (burn D) → Fram (dft b m) H H5 → f.recs.length ≤ K → ∃ r H6, Ahs.runT ap (n + 3) lim (.fn g) ([] ++ [v] ++ caps) H5 = some (r, H6) ∧ DiskAt M H6 b m (k f (burn D)) ∧ Fram (dft b m) H5 H6) :
    ∃ v H', Ahs.runT ap (n + 4) lim (.fn 80) [ptr b, .str name, .fn g [] caps] H = some (v, H') ∧ DOut M H b m (onD D name k).1 (onD D name k).2 v H' := by
  refine F80_run a80 ?_
  unfold F80
  have hlt := h.ltb
  have hltm := h.ltm
  cases ho : D.off with
  | true =>
    have hp : powerI D = 7 := by unfold powerI; rw [ho]; rfl
    have hq : ((7 : Int) != 0) = true := rfl
    (repeat (first | (with_reducible apply bindP_intro; (focus (first | with_reducible rfl | (simp only [walkR, get0, getS, Nat.zero_add, Nat.add_zero, Bool.not_true, Bool.not_false, decide_true, decide_false, reduceIte, and_self, Bool.false_eq_true, power_c h, hp, hq] <;> with_reducible rfl)))) | (with_reducible apply bind2_intro; (focus (first | with_reducible rfl | (simp only [walkR, get0, getS, Nat.zero_add, Nat.add_zero, Bool.not_true, Bool.not_false, decide_true, decide_false, reduceIte, and_self, Bool.false_eq_true, power_c h, hp, hq] <;> with_reducible rfl)))) | with_reducible apply cond_t | with_reducible apply cond_f))
    rw [onD_off ho]
    exact ⟨rfl, h, .refl _ _⟩
  | false =>
    have hp : powerI D = 0 := by unfold powerI; rw [ho]; rfl
    obtain ⟨v, ok, hv, hok, hlk⟩ := h.look name
    have hlk' := hlk true
    obtain ⟨cs, rfl, hcl, hco, st⟩ := fil_st (lim := lim) (H1 := H) (by omega) hv
    have kx : Keeps2 H (H.push (.cells cs)) := .push _ _
    have h1 := h.keep kx
    cases hl : lk D.fs name with
    | none =>
      rw [hl] at hok
      subst hok
      rw [onD_none ho hl]
      have hno : (none : Option Fil).isSome = false := rfl
      (repeat (first | (with_reducible apply bindP_intro; (focus (first | with_reducible rfl | (simp only [walkR, get0, getS, Nat.zero_add, Nat.add_zero, Bool.not_true, Bool.not_false, decide_true, decide_false, reduceIte, and_self, Bool.false_eq_true, power_c h, hp, ne00, aload_one h.cells, hlk', st, hno] <;> with_reducible rfl)))) | (with_reducible apply bind2_intro; (focus (first | with_reducible rfl | (simp only [walkR, get0, getS, Nat.zero_add, Nat.add_zero, Bool.not_true, Bool.not_false, decide_true, decide_false, reduceIte, and_self, Bool.false_eq_true, power_c h, hp, ne00, aload_one h.cells, hlk', st, hno] <;> with_reducible rfl)))) | with_reducible apply cond_t | with_reducible apply cond_f))
      exact ⟨rfl, h1, .of kx⟩
    | some f =>
      rw [hl] at hok hv
      subst hok
      rw [onD_some ho hl]
      obtain ⟨vb, H2, e1, e2, e3, e4⟩ := burns_c (n := n) (lim := lim) h1 hMb hlb hD.fuse
      have f02 : Fram (dft b m) H H2 := (Fram.of kx).trans e4 (fun c _ e => e)
      have hxc : H2.cells H.next = some cs := e4.cells (cells_push_new H _) (fun e => by rcases e with e | e <;> omega)
      unfold operD
      cases hbo : (burn D).off with
      | true =>
        have hp2 : powerI (burn D) = 7 := by unfold powerI; rw [hbo]; rfl
        have hq : ((7 : Int) != 0) = true := rfl
        rw [hp2] at e2
        subst e2
        have hso : (some f).isSome = true := rfl
        (repeat (first | (with_reducible apply bindP_intro; (focus (first | with_reducible rfl | (simp only [walkR, get0, getS, Nat.zero_add, Nat.add_zero, Bool.not_true, Bool.not_false, decide_true, decide_false, reduceIte, and_self, Bool.false_eq_true, power_c h, hp, ne00, aload_one h.cells, hlk', st, e1, hq, hso] <;> with_reducible rfl)))) | (with_reducible apply bind2_intro; (focus (first | with_reducible rfl | (simp only [walkR, get0, getS, Nat.zero_add, Nat.add_zero, Bool.not_true, Bool.not_false, decide_true, decide_false, reduceIte, and_self, Bool.false_eq_true, power_c h, hp, ne00, aload_one h.cells, hlk', st, e1, hq, hso] <;> with_reducible rfl)))) | with_reducible apply cond_t | with_reducible apply cond_f))
        exact ⟨rfl, e3, f02⟩
      | false =>
        have hp2 : powerI (burn D) = 0 := by unfold powerI; rw [hbo]; rfl
        rw [hp2] at e2
        subst e2
        have hso : (some f).isSome = true := rfl
        have hv2 : FilAt M H2 (.agg cs) f := by
          have := (hv.keep kx)
          rw [Option.getD_some] at this
          obtain ⟨s, q1, q2, q3⟩ := this
          exact ⟨s, q1, q2.frame e4 (fun c hc e => q3 c hc (by rcases e with rfl | rfl <;> assumption)), q3⟩
        obtain ⟨r, H6, d1, d2, d3⟩ := hdo f (.agg cs) H2 hv2 e3 f02 (hD.files _ _ (lk_mem hl)).many
        have hcv : callvO (Ahs.runT ap (n + 3)) lim (.fn g [] caps) [.agg cs] H2 = some (r, H6) := d1
        (repeat (first | (with_reducible apply bindP_intro; (focus (first | with_reducible rfl | (simp only [walkR, get0, getS, Nat.zero_add, Nat.add_zero, Bool.not_true, Bool.not_false, decide_true, decide_false, reduceIte, and_self, Bool.false_eq_true, power_c h, hp, ne00, aload_one h.cells, hlk', st, e1, hso, aload_all (n := 4) hxc hcl, hcv] <;> with_reducible rfl)))) | (with_reducible apply bind2_intro; (focus (first | with_reducible rfl | (simp only [walkR, get0, getS, Nat.zero_add, Nat.add_zero, Bool.not_true, Bool.not_false, decide_true, decide_false, reduceIte, and_self, Bool.false_eq_true, power_c h, hp, ne00, aload_one h.cells, hlk', st, e1, hso, aload_all (n := 4) hxc hcl, hcv] <;> with_reducible rfl)))) | with_reducible apply cond_t | with_reducible apply cond_f))
        exact ⟨rfl, d2, f02.trans d3 (fun c _ e => e)⟩

theorem sync1_c {n lim : Nat} (h : DiskAt M H b m D) (hA : Asc D.fs) (hMm : M m) (hlm : lim ≤ m) {x1 x3 : Nat} {name : Str} (c1 : H.cells x1 = some [ptr b]) (c3 : H.cells x3 = some [.str name]) {v : AVal} {f : Fil} (hv : FilAt M H v f) :
    ∃ r H', Ahs.runT ap (n + 1) lim (.fn 81) [v, ptr x1, ptr x3] H = some (r, H') ∧ DiskAt M H' b m { D with fs := ins name { f with syn := f.recs.length } D.fs } ∧ Fram (dft b m) H H' := by
  refine F81_run a81 ?_
  unfold F81
  have hlt := h.ltb
  have hltm := h.ltm
  have l1 := Heap.cells_lt c1
  have l3 := Heap.cells_lt c3
  obtain ⟨s, rfl, hs1, hs2⟩ := hv
  have hco : (([s, .int .i64 (f.syn : Int), .bool f.cut, .str f.torn] : List AVal).all fun v => v.one) = true := by
    simp only [List.all_cons, List.all_nil, hs1.one.1, Bool.and_true]; rfl
  have kx : Keeps2 H (H.push (.cells [s, .int .i64 (f.syn : Int), .bool f.cut, .str f.torn])) := .push _ _
  have lx : ∀ o, aload (H.push (.cells [s, .int .i64 (f.syn : Int), .bool f.cut, .str f.torn])) none (.ptr (some (H.next, o))) = ([s, .int .i64 (f.syn : Int), .bool f.cut, .str f.torn] : List AVal)[o]? := fun o => aload_new1 _ _ _
  have hlen : alen false s = some (.int .i64 (f.recs.length : Int)) := by rw [hs1.sl.len, encR_len]
  have st : astore lim (H.push (.cells [s, .int .i64 (f.syn : Int), .bool f.cut, .str f.torn])) 1 (.ptr (some (H.next, 1))) (.int .i64 (f.recs.length : Int)) = some (H.push (.cells [s, .int .i64 (f.recs.length : Int), .bool f.cut, .str f.torn])) :=
    astore_new1 (by omega) rfl (by show 1 < 4; omega) rfl
  have k2 : Keeps2 H (H.push (.cells [s, .int .i64 (f.recs.length : Int), .bool f.cut, .str f.torn])) := .push _ _
  have h2 := h.keep k2
  obtain ⟨H3, u1, u2, u3⟩ := h2.put (lim := lim) hMm hlm hA name (v := .agg [s, .int .i64 (f.recs.length : Int), .bool f.cut, .str f.torn]) (f := { f with syn := f.recs.length }) ⟨s, rfl, hs1.keep k2, hs2⟩
  have x2 : (H.push (.cells [s, .int .i64 (f.recs.length : Int), .bool f.cut, .str f.torn])).cells H.next = some [s, .int .i64 (f.recs.length : Int), .bool f.cut, .str f.torn] := cells_push_new _ _
  (repeat (first | (with_reducible apply bindP_intro; (focus (first | with_reducible rfl | (simp only [walkR, get0, getS, Nat.zero_add, Nat.add_zero, Bool.not_true, Bool.not_false, decide_true, decide_false, reduceIte, and_self, Bool.false_eq_true, hco, lx, hlen, st, aload_one (k2.cells c1), aload_one h2.cells, aload_one (k2.cells c3), aload_all (n := 4) x2 rfl, u1] <;> with_reducible rfl)))) | (with_reducible apply bind2_intro; (focus (first | with_reducible rfl | (simp only [walkR, get0, getS, Nat.zero_add, Nat.add_zero, Bool.not_true, Bool.not_false, decide_true, decide_false, reduceIte, and_self, Bool.false_eq_true, hco, lx, hlen, st, aload_one (k2.cells c1), aload_one h2.cells, aload_one (k2.cells c3), aload_all (n := 4) x2 rfl, u1] <;> with_reducible rfl)))) | with_reducible apply cond_t | with_reducible apply cond_f))
  exact ⟨u2, (Fram.of k2).trans u3 (fun c _ e => e)⟩

theorem delete1_c {n lim : Nat} (h : DiskAt M H b m D) (hA : Asc D.fs) (hMm : M m) (hlm : lim ≤ m) {x1 x3 : Nat} {name : Str} (c1 : H.cells x1 = some [ptr b]) (c3 : H.cells x3 = some [.str name]) {v : AVal} {f : Fil} (hv : FilAt M H v f) :
    ∃ r H', Ahs.runT ap (n + 1) lim (.fn 89) [v, ptr x1, ptr x3] H = some (r, H') ∧ DiskAt M H' b m { D with fs := del name D.fs } ∧ Fram (dft b m) H H' := by
  refine F89_run a89 ?_
  unfold F89
  obtain ⟨s, rfl, hs1, hs2⟩ := hv
  have hco : (([s, .int .i64 (f.syn : Int), .bool f.cut, .str f.torn] : List AVal).all fun v => v.one) = true := by
    simp only [List.all_cons, List.all_nil, hs1.one.1, Bool.and_true]; rfl
  have k2 : Keeps2 H (H.push (.cells [s, .int .i64 (f.syn : Int), .bool f.cut, .str f.torn])) := .push _ _
  have h2 := h.keep k2
  obtain ⟨H3, u1, u2, u3⟩ := h2.delete (lim := lim) hMm hlm hA name
  (repeat (first | (with_reducible apply bindP_intro; (focus (first | with_reducible rfl | (simp only [walkR, get0, getS, Nat.zero_add, Nat.add_zero, Bool.not_true, Bool.not_false, decide_true, decide_false, reduceIte, and_self, Bool.false_eq_true, hco, aload_one (k2.cells c1), aload_one h2.cells, aload_one (k2.cells c3), u1] <;> with_reducible rfl)))) | (with_reducible apply bind2_intro; (focus (first | with_reducible rfl | (simp only [walkR, get0, getS, Nat.zero_add, Nat.add_zero, Bool.not_true, Bool.not_false, decide_true, decide_false, reduceIte, and_self, Bool.false_eq_true, hco, aload_one (k2.cells c1), aload_one h2.cells, aload_one (k2.cells c3), u1] <;> with_reducible rfl)))) | with_reducible apply cond_t | with_reducible apply cond_f))
  exact ⟨u2, (Fram.of k2).trans u3 (fun c _ e => e)⟩

theorem rename1_c {n lim : Nat} (h : DiskAt M H b m D) (hA : Asc D.fs) (hMb : M b) (hMm : M m) (hlm : lim ≤ m) {x1 x3 x5 : Nat} {from' to' : Str} (c1 : H.cells x1 = some [ptr b]) (c3 : H.cells x3 = some [.str from']) (c5 : H.cells x5 = some [.str to'])
    (hn : ∀ c, dft b m c → c ≠ x1 ∧ c ≠ x3 ∧ c ≠ x5) {v : AVal} {f : Fil} (hv : FilAt M H v f) :
    ∃ r H', Ahs.runT ap (n + 1) lim (.fn 88) [v, ptr x1, ptr x3, ptr x5] H = some (r, H') ∧ DiskAt M H' b m { D with fs := ins to' f (del from' D.fs) } ∧ Fram (dft b m) H H' := by
  refine F88_run a88 ?_
  unfold F88
  have hlt := h.ltb
  have hltm := h.ltm
  obtain ⟨s, rfl, hs1, hs2⟩ := hv
  have hco : (([s, .int .i64 (f.syn : Int), .bool f.cut, .str f.torn] : List AVal).all fun v => v.one) = true := by
    simp only [List.all_cons, List.all_nil, hs1.one.1, Bool.and_true]; rfl
  have k2 : Keeps2 H (H.push (.cells [s, .int .i64 (f.syn : Int), .bool f.cut, .str f.torn])) := .push _ _
  have h2 := h.keep k2
  obtain ⟨H3, u1, u2, u3⟩ := h2.delete (lim := lim) hMm hlm hA from'
  have v3 : FilAt M H3 (.agg [s, .int .i64 (f.syn : Int), .bool f.cut, .str f.torn]) f := ⟨s, rfl, (hs1.keep k2).frame u3 (fun c hc e => hs2 c hc (by
    rcases e with rfl | rfl
    · exact hMb
    · exact hMm)), hs2⟩
  obtain ⟨H4, w1, w2, w3⟩ := u2.put (lim := lim) hMm hlm (del_asc hA) to' v3
  have x2 : H3.cells H.next = some [s, .int .i64 (f.syn : Int), .bool f.cut, .str f.torn] := u3.cells (cells_push_new _ _) (fun e => by rcases e with e | e <;> omega)
  have d1 := u3.cells (k2.cells c1) (fun e => (hn _ e).1 rfl)
  have d5 := u3.cells (k2.cells c5) (fun e => (hn _ e).2.2 rfl)
  (repeat (first | (with_reducible apply bindP_intro; (focus (first | with_reducible rfl | (simp only [walkR, get0, getS, Nat.zero_add, Nat.add_zero, Bool.not_true, Bool.not_false, decide_true, decide_false, reduceIte, and_self, Bool.false_eq_true, hco, aload_one (k2.cells c1), aload_one h2.cells, aload_one (k2.cells c3), u1, aload_one d1, aload_one u2.cells, aload_one d5, aload_all (n := 4) x2 rfl, w1] <;> with_reducible rfl)))) | (with_reducible apply bind2_intro; (focus (first | with_reducible rfl | (simp only [walkR, get0, getS, Nat.zero_add, Nat.add_zero, Bool.not_true, Bool.not_false, decide_true, decide_false, reduceIte, and_self, Bool.false_eq_true, hco, aload_one (k2.cells c1), aload_one h2.cells, aload_one (k2.cells c3), u1, aload_one d1, aload_one u2.cells, aload_one d5, aload_all (n := 4) x2 rfl, w1] <;> with_reducible rfl)))) | with_reducible apply cond_t | with_reducible apply cond_f))
  exact ⟨w2, ((Fram.of k2).trans u3 (fun c _ e => e)).trans w3 (fun c _ e => e)⟩

end

/-! What the functions of the disk come to: contracts. Third part. -/

section
variable {M : Nat → Prop} {H : Heap} {b m : Nat} {D : Dsk}

theorem sync_c {n lim K : Nat} (h : DiskAt M H b m D) (hD : DskOK K D) (hMb : M b) (hMm : M m) (hlb : lim ≤ b) (hlm : lim ≤ m) (name : Str) :
    ∃ v H', Ahs.runT ap (n + 5) lim (.fn 43) [ptr b, .str name] H = some (v, H') ∧ DOut M H b m (syncD D name).1 (syncD D name).2 v H' := by
  refine F43_run a43 ?_
  unfold F43
  have hlt := h.ltb
  have hltm := h.ltm
  have k1 : Keeps2 H (H.push (.cells [ptr b])) := .push _ _
  have n1 : (H.push (.cells [ptr b])).next = H.next + 1 := Heap.next_push _ _
  have k2 : Keeps2 H ((H.push (.cells [ptr b])).push (.cells [.str name])) := k1.trans (.push _ _)
  have n2 : ((H.push (.cells [ptr b])).push (.cells [AVal.str name])).next = H.next + 2 := by rw [Heap.next_push, n1]
  have c1 : ((H.push (.cells [ptr b])).push (.cells [.str name])).cells H.next = some [ptr b] := cells_push_old (cells_push_new H _)
  have c3 : ((H.push (.cells [ptr b])).push (.cells [.str name])).cells (H.push (.cells [ptr b])).next = some [.str name] := cells_push_new _ _
  obtain ⟨v, H', e1, e2, e3, e4⟩ := oper_c (n := n) (lim := lim) (name := name) (g := 81) (caps := [ptr H.next, ptr (H.push (.cells [ptr b])).next]) (k := fun f B => { B with fs := ins name { f with syn := f.recs.length } B.fs }) (h.keep k2) hD hMb hMm hlb (by
    intro f v H5 q1 q2 q3 _
    obtain ⟨r, H6, d1, d2, d3⟩ := sync1_c (n := n + 2) (lim := lim) q2 (by rw [burn_fs]; exact hD.asc) hMm hlm (x1 := H.next) (x3 := (H.push (.cells [ptr b])).next) (name := name) (q3.cells c1 (fun e => by rcases e with e | e <;> omega)) (q3.cells c3 (fun e => by rcases e with e | e <;> omega)) q1
    exact ⟨r, H6, d1, d2, d3⟩)
  (repeat (first | (with_reducible apply bindP_intro; (focus (first | with_reducible rfl | (simp only [walkR, get0, getS, Nat.zero_add, Nat.add_zero, Bool.not_true, Bool.not_false, decide_true, decide_false, reduceIte, and_self, Bool.false_eq_true, boxR, aload_one c1, aload_one c3, e1] <;> with_reducible rfl)))) | (with_reducible apply bind2_intro; (focus (first | with_reducible rfl | (simp only [walkR, get0, getS, Nat.zero_add, Nat.add_zero, Bool.not_true, Bool.not_false, decide_true, decide_false, reduceIte, and_self, Bool.false_eq_true, boxR, aload_one c1, aload_one c3, e1] <;> with_reducible rfl)))) | with_reducible apply cond_t | with_reducible apply cond_f))
  exact ⟨e2, e3, (Fram.of k2).trans e4 (fun c _ e => e)⟩

theorem delete_c {n lim K : Nat} (h : DiskAt M H b m D) (hD : DskOK K D) (hMb : M b) (hMm : M m) (hlb : lim ≤ b) (hlm : lim ≤ m) (name : Str) :
    ∃ v H', Ahs.runT ap (n + 5) lim (.fn 51) [ptr b, .str name] H = some (v, H') ∧ DOut M H b m (deleteD D name).1 (deleteD D name).2 v H' := by
  refine F51_run a51 ?_
  unfold F51
  have hlt := h.ltb
  have hltm := h.ltm
  have k1 : Keeps2 H (H.push (.cells [ptr b])) := .push _ _
  have n1 : (H.push (.cells [ptr b])).next = H.next + 1 := Heap.next_push _ _
  have k2 : Keeps2 H ((H.push (.cells [ptr b])).push (.cells [.str name])) := k1.trans (.push _ _)
  have c1 : ((H.push (.cells [ptr b])).push (.cells [.str name])).cells H.next = some [ptr b] := cells_push_old (cells_push_new H _)
  have c3 : ((H.push (.cells [ptr b])).push (.cells [.str name])).cells (H.push (.cells [ptr b])).next = some [.str name] := cells_push_new _ _
  obtain ⟨v, H', e1, e2, e3, e4⟩ := oper_c (n := n) (lim := lim) (name := name) (g := 89) (caps := [ptr H.next, ptr (H.push (.cells [ptr b])).next]) (k := fun _ B => { B with fs := del name B.fs }) (h.keep k2) hD hMb hMm hlb (by
    intro f v H5 q1 q2 q3 _
    obtain ⟨r, H6, d1, d2, d3⟩ := delete1_c (n := n + 2) (lim := lim) q2 (by rw [burn_fs]; exact hD.asc) hMm hlm (x1 := H.next) (x3 := (H.push (.cells [ptr b])).next) (name := name) (q3.cells c1 (fun e => by rcases e with e | e <;> omega)) (q3.cells c3 (fun e => by rcases e with e | e <;> omega)) q1
    exact ⟨r, H6, d1, d2, d3⟩)
  (repeat (first | (with_reducible apply bindP_intro; (focus (first | with_reducible rfl | (simp only [walkR, get0, getS, Nat.zero_add, Nat.add_zero, Bool.not_true, Bool.not_false, decide_true, decide_false, reduceIte, and_self, Bool.false_eq_true, boxR, aload_one c1, aload_one c3, e1] <;> with_reducible rfl)))) | (with_reducible apply bind2_intro; (focus (first | with_reducible rfl | (simp only [walkR, get0, getS, Nat.zero_add, Nat.add_zero, Bool.not_true, Bool.not_false, decide_true, decide_false, reduceIte, and_self, Bool.false_eq_true, boxR, aload_one c1, aload_one c3, e1] <;> with_reducible rfl)))) | with_reducible apply cond_t | with_reducible apply cond_f))
  exact ⟨e2, e3, (Fram.of k2).trans e4 (fun c _ e => e)⟩

theorem rename_c {n lim K : Nat} (h : DiskAt M H b m D) (hD : DskOK K D) (hMb : M b) (hMm : M m) (hlb : lim ≤ b) (hlm : lim ≤ m) (x y : Str) :
    ∃ v H', Ahs.runT ap (n + 5) lim (.fn 49) [ptr b, .str x, .str y] H = some (v, H') ∧ DOut M H b m (renameD D x y).1 (renameD D x y).2 v H' := by
  refine F49_run a49 ?_
  unfold F49 renameD
  have hlt := h.ltb
  have hltm := h.ltm
  have k1 : Keeps2 H (H.push (.cells [ptr b])) := .push _ _
  have n1 : (H.push (.cells [ptr b])).next = H.next + 1 := Heap.next_push _ _
  have k2 : Keeps2 H ((H.push (.cells [ptr b])).push (.cells [.str x])) := k1.trans (.push _ _)
  have n2 : ((H.push (.cells [ptr b])).push (.cells [.str x])).next = H.next + 2 := by rw [Heap.next_push, n1]
  have k3 : Keeps2 H (((H.push (.cells [ptr b])).push (.cells [.str x])).push (.cells [.str y])) := k2.trans (.push _ _)
  have c1 : (((H.push (.cells [ptr b])).push (.cells [.str x])).push (.cells [.str y])).cells H.next = some [ptr b] := cells_push_old (cells_push_old (cells_push_new H _))
  have c3 : (((H.push (.cells [ptr b])).push (.cells [.str x])).push (.cells [.str y])).cells (H.push (.cells [ptr b])).next = some [.str x] := cells_push_old (cells_push_new _ _)
  have c5 : (((H.push (.cells [ptr b])).push (.cells [.str x])).push (.cells [.str y])).cells ((H.push (.cells [ptr b])).push (.cells [.str x])).next = some [.str y] := cells_push_new _ _
  have h3 := h.keep k3
  cases ho : D.off with
  | true =>
    have hp : powerI D = 7 := by unfold powerI; rw [ho]; rfl
    have hq : ((7 : Int) != 0) = true := rfl
    (repeat (first | (with_reducible apply bindP_intro; (focus (first | with_reducible rfl | (simp only [walkR, get0, getS, Nat.zero_add, Nat.add_zero, Bool.not_true, Bool.not_false, decide_true, decide_false, reduceIte, and_self, Bool.false_eq_true, boxR, aload_one c1, power_c h3, hp, hq] <;> with_reducible rfl)))) | (with_reducible apply bind2_intro; (focus (first | with_reducible rfl | (simp only [walkR, get0, getS, Nat.zero_add, Nat.add_zero, Bool.not_true, Bool.not_false, decide_true, decide_false, reduceIte, and_self, Bool.false_eq_true, boxR, aload_one c1, power_c h3, hp, hq] <;> with_reducible rfl)))) | with_reducible apply cond_t | with_reducible apply cond_f))
    exact ⟨rfl, h3, .of k3⟩
  | false =>
    have hp : powerI D = 0 := by unfold powerI; rw [ho]; rfl
    simp only [Bool.false_eq_true, if_false]
    cases hr : rightN y with
    | false =>
      (repeat (first | (with_reducible apply bindP_intro; (focus (first | with_reducible rfl | (simp only [walkR, get0, getS, Nat.zero_add, Nat.add_zero, Bool.not_true, Bool.not_false, decide_true, decide_false, reduceIte, and_self, Bool.false_eq_true, boxR, aload_one c1, aload_one c5, power_c h3, hp, ne00, right_c, hr] <;> with_reducible rfl)))) | (with_reducible apply bind2_intro; (focus (first | with_reducible rfl | (simp only [walkR, get0, getS, Nat.zero_add, Nat.add_zero, Bool.not_true, Bool.not_false, decide_true, decide_false, reduceIte, and_self, Bool.false_eq_true, boxR, aload_one c1, aload_one c5, power_c h3, hp, ne00, right_c, hr] <;> with_reducible rfl)))) | with_reducible apply cond_t | with_reducible apply cond_f))
      exact ⟨rfl, h3, .of k3⟩
    | true =>
      obtain ⟨v, H', e1, e2, e3, e4⟩ := oper_c (n := n) (lim := lim) (name := x) (g := 88) (caps := [ptr H.next, ptr (H.push (.cells [ptr b])).next, ptr ((H.push (.cells [ptr b])).push (.cells [.str x])).next]) (k := fun f B => { B with fs := ins y f (del x B.fs) }) h3 hD hMb hMm hlb (by
        intro f v H5 q1 q2 q3 _
        obtain ⟨r, H6, d1, d2, d3⟩ := rename1_c (n := n + 2) (lim := lim) q2 (by rw [burn_fs]; exact hD.asc) hMb hMm hlm (x1 := H.next) (x3 := (H.push (.cells [ptr b])).next) (x5 := ((H.push (.cells [ptr b])).push (.cells [.str x])).next) (from' := x) (to' := y) (q3.cells c1 (fun e => by rcases e with e | e <;> omega)) (q3.cells c3 (fun e => by rcases e with e | e <;> omega)) (q3.cells c5 (fun e => by rcases e with e | e <;> omega))
          (fun c e => by rcases e with rfl | rfl <;> refine ⟨?_, ?_, ?_⟩ <;> omega) q1
        exact ⟨r, H6, d1, d2, d3⟩)
      (repeat (first | (with_reducible apply bindP_intro; (focus (first | with_reducible rfl | (simp only [walkR, get0, getS, Nat.zero_add, Nat.add_zero, Bool.not_true, Bool.not_false, decide_true, decide_false, reduceIte, and_self, Bool.false_eq_true, boxR, aload_one c1, aload_one c3, aload_one c5, power_c h3, hp, ne00, right_c, hr, e1] <;> with_reducible rfl)))) | (with_reducible apply bind2_intro; (focus (first | with_reducible rfl | (simp only [walkR, get0, getS, Nat.zero_add, Nat.add_zero, Bool.not_true, Bool.not_false, decide_true, decide_false, reduceIte, and_self, Bool.false_eq_true, boxR, aload_one c1, aload_one c3, aload_one c5, power_c h3, hp, ne00, right_c, hr, e1] <;> with_reducible rfl)))) | with_reducible apply cond_t | with_reducible apply cond_f))
      simp only [Bool.true_eq_false, if_false]
      exact ⟨e2, e3, (Fram.of k3).trans e4 (fun c _ e => e)⟩

theorem strs_of {s : AVal} {rs : List Str} (h : Fz H 1 s (encR rs)) : strsOf H s = some rs := by
  have hc : ∀ rs : List Str, strsOfCells (encR rs).flatten = some rs := by
    intro rs
    induction rs with
    | nil => rfl
    | cons r rs ih =>
      show (strsOfCells (encR rs).flatten).map (r :: ·) = _
      rw [ih]; rfl
  rcases h.at' with ⟨rfl, h0⟩ | ⟨b, o, c, cs, rfl, _, h3, h4, h5⟩
  · have : rs = [] := by
      cases rs with
      | nil => rfl
      | cons a l => simp [encR] at h0
    subst this
    rfl
  · rw [encR_len] at h4 h5 ⊢
    unfold strsOf
    by_cases hz : rs.length = 0
    · simp only [hz, if_true]
      have : rs = [] := List.length_eq_zero_iff.1 hz
      rw [this]
    · simp only [hz, if_false, h3]
      unfold Ahs.cut
      rw [if_pos (by omega), show (cs.drop o).take rs.length = (encR rs).flatten by rw [← h5, Nat.mul_one]]
      exact hc rs

theorem read_c {n lim K : Nat} (h : DiskAt M H b m D) (hD : DskOK K D) (hK : K ≤ 1000000000000) (hlb : lim ≤ H.next) (name : Str) :
    ∃ v H', Ahs.runT ap (n + 4) lim (.fn 44) [ptr b, .str name] H = some (v, H') ∧ v = .tup [.str (readD D name).1, .int .i64 (readD D name).2] ∧ Keeps2 H H' := by
  refine F44_run a44 ?_
  unfold F44 readD
  cases ho : D.off with
  | true =>
    have hp : powerI D = 7 := by unfold powerI; rw [ho]; rfl
    have hq : ((7 : Int) != 0) = true := rfl
    (repeat (first | (with_reducible apply bindP_intro; (focus (first | with_reducible rfl | (simp only [walkR, get0, getS, Nat.zero_add, Nat.add_zero, Bool.not_true, Bool.not_false, decide_true, decide_false, reduceIte, and_self, Bool.false_eq_true, power_c h, hp, hq] <;> with_reducible rfl)))) | (with_reducible apply bind2_intro; (focus (first | with_reducible rfl | (simp only [walkR, get0, getS, Nat.zero_add, Nat.add_zero, Bool.not_true, Bool.not_false, decide_true, decide_false, reduceIte, and_self, Bool.false_eq_true, power_c h, hp, hq] <;> with_reducible rfl)))) | with_reducible apply cond_t | with_reducible apply cond_f))
    exact ⟨rfl, .refl _⟩
  | false =>
    have hp : powerI D = 0 := by unfold powerI; rw [ho]; rfl
    obtain ⟨v, ok, hv, hok, hlk⟩ := h.look name
    have hlk' := hlk true
    have hv0 := hv
    obtain ⟨cs, rfl, hcl, hco, st⟩ := fil_st (lim := lim) (H1 := H) hlb hv
    have kx : Keeps2 H (H.push (.cells cs)) := .push _ _
    cases hl : lk D.fs name with
    | none =>
      rw [hl] at hok
      subst hok
      have hno : (none : Option Fil).isSome = false := rfl
      (repeat (first | (with_reducible apply bindP_intro; (focus (first | with_reducible rfl | (simp only [walkR, get0, getS, Nat.zero_add, Nat.add_zero, Bool.not_true, Bool.not_false, decide_true, decide_false, reduceIte, and_self, Bool.false_eq_true, power_c h, hp, ne00, aload_one h.cells, hlk', st, hno] <;> with_reducible rfl)))) | (with_reducible apply bind2_intro; (focus (first | with_reducible rfl | (simp only [walkR, get0, getS, Nat.zero_add, Nat.add_zero, Bool.not_true, Bool.not_false, decide_true, decide_false, reduceIte, and_self, Bool.false_eq_true, power_c h, hp, ne00, aload_one h.cells, hlk', st, hno] <;> with_reducible rfl)))) | with_reducible apply cond_t | with_reducible apply cond_f))
      exact ⟨rfl, kx⟩
    | some f =>
      rw [hl] at hok hv0
      rw [Option.getD_some] at hv0
      subst hok
      obtain ⟨s, q1, q2, q3⟩ := hv0
      simp only [AVal.agg.injEq] at q1
      subst q1
      have hso : (some f).isSome = true := rfl
      have hfo := hD.files _ _ (lk_mem hl)
      have hb := hfo.bytes
      have hmy := hfo.many
      unfold bytesF at hb
      rw [List.length_append] at hb
      have hj : ∀ rs : List Str, Lib.join rs [] = rs.flatten := by
        intro rs
        cases rs with
        | nil => rfl
        | cons x r =>
          rw [Lib.join_cons, Lib.joinTail, List.flatten_cons]
          simp
      have hjo : gJoin (H.push (.cells [s, .int .i64 (f.syn : Int), .bool f.cut, .str f.torn])).next [s, .str []] (H.push (.cells [s, .int .i64 (f.syn : Int), .bool f.cut, .str f.torn])) = some (.str f.recs.flatten, H.push (.cells [s, .int .i64 (f.syn : Int), .bool f.cut, .str f.torn])) := by
        simp only [gJoin, strs_of (q2.keep kx), hj]
        rw [if_pos]
        simp only [Bool.and_eq_true, Nat.ble_eq]
        omega
      have lx : ∀ o, aload (H.push (.cells [s, .int .i64 (f.syn : Int), .bool f.cut, .str f.torn])) none (.ptr (some (H.next, o))) = ([s, .int .i64 (f.syn : Int), .bool f.cut, .str f.torn] : List AVal)[o]? := fun o => aload_new1 _ _ _
      have hadd : abin .add (.str f.recs.flatten) (.str f.torn) = some (.str (f.recs.flatten ++ f.torn)) := by
        simp only [abin, abinStr]
        rw [if_neg]
        show ¬ (((f.recs.flatten.length + f.torn.length : Nat) : Int) > 9223372036854775807)
        omega
      (repeat (first | (with_reducible apply bindP_intro; (focus (first | with_reducible rfl | (simp only [walkR, get0, getS, Nat.zero_add, Nat.add_zero, Bool.not_true, Bool.not_false, decide_true, decide_false, reduceIte, and_self, Bool.false_eq_true, power_c h, hp, ne00, aload_one h.cells, hlk', st, hso, lx, q83, hjo, hadd] <;> with_reducible rfl)))) | (with_reducible apply bind2_intro; (focus (first | with_reducible rfl | (simp only [walkR, get0, getS, Nat.zero_add, Nat.add_zero, Bool.not_true, Bool.not_false, decide_true, decide_false, reduceIte, and_self, Bool.false_eq_true, power_c h, hp, ne00, aload_one h.cells, hlk', st, hso, lx, q83, hjo, hadd] <;> with_reducible rfl)))) | with_reducible apply cond_t | with_reducible apply cond_f))
      exact ⟨rfl, kx⟩

def recsD (D : Dsk) (n : Str) : Nat × Nat := (((lk D.fs n).getD noFil).recs.length, ((lk D.fs n).getD noFil).syn)

theorem records_c {n lim : Nat} (h : DiskAt M H b m D) (hlb : lim ≤ H.next) (name : Str) :
    ∃ v H', Ahs.runT ap (n + 2) lim (.fn 45) [ptr b, .str name] H = some (v, H') ∧ v = .tup [.int .i64 ((recsD D name).1 : Int), .int .i64 ((recsD D name).2 : Int)] ∧ Keeps2 H H' := by
  refine F45_run a45 ?_
  unfold F45 recsD
  obtain ⟨v, ok, hv, hok, hlk⟩ := h.look name
  have hlk' := hlk false
  have hv0 := hv
  obtain ⟨cs, rfl, hcl, hco, st⟩ := fil_st (lim := lim) (H1 := H) hlb hv
  obtain ⟨s, q1, q2, q3⟩ := hv0
  simp only [AVal.agg.injEq] at q1
  subst q1
  generalize (lk D.fs name).getD noFil = f at *
  have lx : ∀ o, aload (H.push (.cells [s, .int .i64 (f.syn : Int), .bool f.cut, .str f.torn])) none (.ptr (some (H.next, o))) = ([s, .int .i64 (f.syn : Int), .bool f.cut, .str f.torn] : List AVal)[o]? := fun o => aload_new1 _ _ _
  have hlen : alen false s = some (.int .i64 (f.recs.length : Int)) := by rw [q2.sl.len, encR_len]
  (repeat (first | (with_reducible apply bindP_intro; (focus (first | with_reducible rfl | (simp only [walkR, get0, getS, Nat.zero_add, Nat.add_zero, Bool.not_true, Bool.not_false, decide_true, decide_false, reduceIte, and_self, Bool.false_eq_true, none_c h, aload_one h.cells, hlk', st, lx, hlen] <;> with_reducible rfl)))) | (with_reducible apply bind2_intro; (focus (first | with_reducible rfl | (simp only [walkR, get0, getS, Nat.zero_add, Nat.add_zero, Bool.not_true, Bool.not_false, decide_true, decide_false, reduceIte, and_self, Bool.false_eq_true, none_c h, aload_one h.cells, hlk', st, lx, hlen] <;> with_reducible rfl)))) | with_reducible apply cond_t | with_reducible apply cond_f))
  exact ⟨rfl, .push _ _⟩

theorem down_c {n lim : Nat} (h : DiskAt M H b m D) : Ahs.runT ap (n + 2) lim (.fn 55) [ptr b] H = some (.bool D.off, H) := by
  refine run_eqn (F55_run a55 ?_)
  unfold F55
  (repeat (first | (with_reducible apply bindP_intro; (focus (first | with_reducible rfl | (simp only [walkR, get0, getS, Nat.zero_add, Nat.add_zero, Bool.not_true, Bool.not_false, decide_true, decide_false, reduceIte, and_self, Bool.false_eq_true, none_c h, aload_one h.cells] <;> with_reducible rfl)))) | (with_reducible apply bind2_intro; (focus (first | with_reducible rfl | (simp only [walkR, get0, getS, Nat.zero_add, Nat.add_zero, Bool.not_true, Bool.not_false, decide_true, decide_false, reduceIte, and_self, Bool.false_eq_true, none_c h, aload_one h.cells] <;> with_reducible rfl)))) | with_reducible apply cond_t | with_reducible apply cond_f))
  exact ⟨rfl, rfl⟩

theorem fused_c {n lim : Nat} (h : DiskAt M H b m D) : Ahs.runT ap (n + 2) lim (.fn 50) [ptr b] H = some (.int .i64 (D.fuse : Int), H) := by
  refine run_eqn (F50_run a50 ?_)
  unfold F50
  (repeat (first | (with_reducible apply bindP_intro; (focus (first | with_reducible rfl | (simp only [walkR, get0, getS, Nat.zero_add, Nat.add_zero, Bool.not_true, Bool.not_false, decide_true, decide_false, reduceIte, and_self, Bool.false_eq_true, none_c h, aload_one h.cells] <;> with_reducible rfl)))) | (with_reducible apply bind2_intro; (focus (first | with_reducible rfl | (simp only [walkR, get0, getS, Nat.zero_add, Nat.add_zero, Bool.not_true, Bool.not_false, decide_true, decide_false, reduceIte, and_self, Bool.false_eq_true, none_c h, aload_one h.cells] <;> with_reducible rfl)))) | with_reducible apply cond_t | with_reducible apply cond_f))
  exact ⟨rfl, rfl⟩

theorem fuse_c {n lim : Nat} (h : DiskAt M H b m D) (hMb : M b) (hlb : lim ≤ b) (x : Int) :
    ∃ v H', Ahs.runT ap (n + 2) lim (.fn 42) [ptr b, .int .i64 x] H = some (v, H') ∧ DiskAt M H' b m (fuseD D x) ∧ Fram (dft b m) H H' := by
  refine F42_run a42 ?_
  unfold F42 F42_j0
  have hmx : aminmax true [.int .i64 x, .int .i64 0] = some (.int .i64 ((x.toNat : Nat) : Int)) := by
    rw [max_int]; congr 2; omega
  have st : astore lim H 1 (.ptr (some (b, 2))) (.int .i64 ((x.toNat : Nat) : Int)) = some (H.set b (.cells [.map (some m), .bool D.off, .int .i64 ((x.toNat : Nat) : Int)])) := astore_cell h.cells hlb rfl rfl (by show 2 < 3; omega) rfl
  (repeat (first | (with_reducible apply bindP_intro; (focus (first | with_reducible rfl | (simp only [walkR, get0, getS, Nat.zero_add, Nat.add_zero, Bool.not_true, Bool.not_false, decide_true, decide_false, reduceIte, and_self, Bool.false_eq_true, none_c h, hmx, st] <;> with_reducible rfl)))) | (with_reducible apply bind2_intro; (focus (first | with_reducible rfl | (simp only [walkR, get0, getS, Nat.zero_add, Nat.add_zero, Bool.not_true, Bool.not_false, decide_true, decide_false, reduceIte, and_self, Bool.false_eq_true, none_c h, hmx, st] <;> with_reducible rfl)))) | with_reducible apply cond_t | with_reducible apply cond_f))
  exact ⟨h.setb (D' := fuseD D x) hMb rfl, .set (.inl rfl)⟩

theorem start_c {n lim : Nat} (h : DiskAt M H b m D) (hMb : M b) (hlb : lim ≤ b) :
    ∃ v H', Ahs.runT ap (n + 2) lim (.fn 41) [ptr b] H = some (v, H') ∧ DiskAt M H' b m (startD D) ∧ Fram (dft b m) H H' := by
  refine F41_run a41 ?_
  unfold F41 F41_j0
  have st : astore lim H 1 (.ptr (some (b, 1))) (.bool false) = some (H.set b (.cells [.map (some m), .bool false, .int .i64 (D.fuse : Int)])) := astore_cell h.cells hlb rfl rfl (by show 1 < 3; omega) rfl
  (repeat (first | (with_reducible apply bindP_intro; (focus (first | with_reducible rfl | (simp only [walkR, get0, getS, Nat.zero_add, Nat.add_zero, Bool.not_true, Bool.not_false, decide_true, decide_false, reduceIte, and_self, Bool.false_eq_true, none_c h, st] <;> with_reducible rfl)))) | (with_reducible apply bind2_intro; (focus (first | with_reducible rfl | (simp only [walkR, get0, getS, Nat.zero_add, Nat.add_zero, Bool.not_true, Bool.not_false, decide_true, decide_false, reduceIte, and_self, Bool.false_eq_true, none_c h, st] <;> with_reducible rfl)))) | with_reducible apply cond_t | with_reducible apply cond_f))
  exact ⟨h.setb (D' := startD D) hMb rfl, .set (.inl rfl)⟩

/-- A slice of strings that is looked at. -/
def SlS (H : Heap) (s : AVal) (ns : List Str) : Prop := Sl H 1 s (encR ns) ∧ ∀ c, slBlk s = some c → c < H.next

theorem list_c {n lim K : Nat} (h : DiskAt M H b m D) (hD : DskOK K D) (hK : K ≤ 1000000000) :
    ∃ v H', Ahs.runT ap (n + 1) lim (.fn 52) [ptr b] H = some (v, H') ∧ Sl H' 1 v (encR (D.fs.map (·.1))) ∧ Keeps2 H H' ∧ ∀ c, slBlk v = some c → H.next ≤ c := by
  obtain ⟨vs, clk, h1, h2, h3⟩ := h.map.ex
  have hks : ∀ vs : List (Str × AVal), keyStrs (encE strK vs) = some (vs.map (·.1)) := by
    intro vs
    induction vs with
    | nil => rfl
    | cons x xs ih =>
      show (keyStrs (encE strK xs)).map (x.1 :: ·) = _
      rw [ih]; rfl
  have hld : aload H none (.ptr (some (b, 0))) = some (.map (some m)) := by rw [aload_one h.cells]; rfl
  have hsort : sortS (vs.map (·.1)) = D.fs.map (·.1) := by
    have hp : (sortS (vs.map (·.1))).Perm (D.fs.map (·.1)) := (sortS_perm _).trans h2
    have hs := sortS_sorted (vs.map (·.1))
    have ha := asc_keys.1 hD.asc
    refine List.Perm.eq_of_pairwise (le := fun a b => a ≤ b) (fun a b _ _ h1 h2 => List.le_antisymm h1 h2) hs (ha.imp fun h => List.le_of_lt h) hp
  have hnm : ∀ k ∈ vs.map (·.1), k.length ≤ 140737488355328 := by
    intro k hk
    have := hD.names k (h2.mem_iff.1 hk)
    unfold rightN at this
    simp only [Bool.and_eq_true, decide_eq_true_eq] at this
    omega
  have hlen : (vs.map (·.1)).length ≤ 1000000000 := by
    have := hD.len
    rw [h2.length_eq]; simp; omega
  have hno : namesO H (vs.map (·.1)) = if vs.map (·.1) = [] then some (.sl none 0 (.ex 0), H) else some (.sl (some (H.next, 0)) (sortS (vs.map (·.1))).length .un, H.push (.cells ((sortS (vs.map (·.1))).map .str))) := by
    unfold namesO
    rw [if_pos]
    simp only [Bool.and_eq_true, List.all_eq_true, Nat.ble_eq]
    exact ⟨hnm, hlen⟩
  have hg : gList lim [ptr b] H = namesO H (vs.map (·.1)) := by
    simp only [gList, hld, mapEs, h1, Option.bind_some, hks]
  rw [q52, hg, hno]
  by_cases h0 : vs.map (·.1) = []
  · rw [if_pos h0]
    refine ⟨_, _, rfl, ?_, .refl _, fun c hc => by simp [slBlk] at hc⟩
    rw [← hsort, h0]
    exact Sl.nil H 1
  · rw [if_neg h0]
    refine ⟨_, _, rfl, ?_, .push _ _, fun c hc => by simp [slBlk] at hc; omega⟩
    rw [hsort]
    have hfl : ∀ ns : List Str, (encR ns).flatten = ns.map .str := by
      intro ns
      induction ns with
      | nil => rfl
      | cons a l ih => show AVal.str a :: (encR l).flatten = _; rw [ih]; rfl
    refine ⟨.inr ⟨H.next, 0, .un, _, by rw [encR_len], trivial, cells_push_new H _, ?_, ?_⟩, fun x hx => ?_⟩
    · rw [encR_len]; simp
    · rw [encR_len, List.drop_zero, hfl, List.take_of_length_le (by simp)]
    · unfold encR at hx
      obtain ⟨r, _, rfl⟩ := List.mem_map.1 hx
      rfl

theorem new_c {n lim : Nat} (hl : lim ≤ H.next) : ∃ b m H', Ahs.runT ap (n + 1) lim (.fn 39) [] H = some (ptr b, H') ∧ DiskAt M H' b m newD ∧ Keeps2 H H' ∧ H.next ≤ b ∧ H.next ≤ m ∧ b < H'.next ∧ m < H'.next := by
  have hb : buildO z5cbe97 [(0, 1, .map (some H.next))] = some (.agg [.map (some H.next), .bool false, .int .i64 0]) := rfl
  have ho : (([.map (some H.next), .bool false, .int .i64 0] : List AVal).all fun v => v.one) = true := rfl
  refine ⟨H.next + 1, H.next, (H.push (.map [] ⟨0, []⟩)).push (.cells [.map (some H.next), .bool false, .int .i64 0]), ?_, ⟨?_, ?_⟩, (Keeps2.push _ _).trans (.push _ _), by omega, Nat.le_refl _, by rw [Heap.next_push, Heap.next_push]; omega, by rw [Heap.next_push, Heap.next_push]; omega⟩
  · refine run_eqn (F39_run a39 ?_)
    unfold F39
    (repeat (first | (with_reducible apply bindP_intro; (focus (first | with_reducible rfl | (simp only [walkR, get0, getS, Nat.zero_add, Nat.add_zero, Bool.not_true, Bool.not_false, decide_true, decide_false, reduceIte, and_self, Bool.false_eq_true, hintOK, hb, ho] <;> with_reducible rfl)))) | (with_reducible apply bind2_intro; (focus (first | with_reducible rfl | (simp only [walkR, get0, getS, Nat.zero_add, Nat.add_zero, Bool.not_true, Bool.not_false, decide_true, decide_false, reduceIte, and_self, Bool.false_eq_true, hintOK, hb, ho] <;> with_reducible rfl)))) | with_reducible apply cond_t | with_reducible apply cond_f))
    exact ⟨by rw [Heap.next_push], rfl⟩
  · have : (H.push (.map [] ⟨0, []⟩)).next = H.next + 1 := Heap.next_push _ _
    rw [← this]
    exact cells_push_new _ _
  · exact (MapAt.new (kk := strK) (H := H) (FilAt M H)).mono (by rw [Heap.get_push_old _ _ _ (by rw [Heap.next_push]; omega)]) fun _ _ _ h => by simp [newD] at h

end

/-! What the functions of the disk come to: contracts. Fourth part: what a crash leaves. -/

def encI (l : List Int) : List (List AVal) := l.map fun x => [.int .i64 x]
theorem encI_len (l : List Int) : (encI l).length = l.length := by unfold encI; simp
theorem encI_get {l : List Int} {i : Nat} {x : Int} (h : l[i]? = some x) : (encI l)[i]? = some [.int .i64 x] := by unfold encI; rw [List.getElem?_map, h]; rfl
theorem encR_get {l : List Str} {i : Nat} {x : Str} (h : l[i]? = some x) : (encR l)[i]? = some [.str x] := by unfold encR; rw [List.getElem?_map, h]; rfl
def inI64 (x : Int) : Prop := -9223372036854775808 ≤ x ∧ x < 9223372036854775808

abbrev filV (s : AVal) (syn : Int) (c : Bool) (t : Str) : List AVal := [s, .int .i64 syn, .bool c, .str t]
theorem filV_one {s : AVal} (h : s.one = true) (syn : Int) (c : Bool) (t : Str) : ((filV s syn c t).all fun v => v.one) = true := by
  simp only [List.all_cons, List.all_nil, h, Bool.and_true]; rfl

section
variable {M : Nat → Prop} {H : Heap} {b m : Nat} {D : Dsk}

theorem sl_at {s : AVal} {G : Heap} {xs : List (List AVal)} (h : Sl G 1 s xs) {i : Nat} {x : AVal} (hx : xs[i]? = some [x]) : ∃ p, aindexAddr none 1 s (.int .i64 (i : Int)) = some p ∧ aload G none p = some x := by
  have hi : i < xs.length := (List.getElem?_eq_some_iff.1 hx).1
  exact ⟨_, h.addr hi, h.load1 hx⟩

theorem fc_j0 {n lim : Nat} {K : AVal → Heap → Prop} {G : Heap} {x1 x6 left : Nat} {s : AVal} {a : Int} {c : Bool} {t : Str} {rs : List Str} {Z : List AVal} (h1 : G.cells x1 = some (filV s a c t)) (h6 : G.cells x6 = some Z) (hZ : Z.length = 4)
    (hne : x1 ≠ x6) (l1 : lim ≤ x1) (l6 : lim ≤ x6) (hs : Fz G 1 s (encR rs)) (hl : left ≤ rs.length) (hsb : ∀ q, slBlk s = some q → q ≠ x1 ∧ q ≠ x6)
    (hK : ∀ s2 G', Fz G' 1 s2 (encR (rs.take left)) → slBlk s2 = slBlk s → Fram (fun q => q = x1 ∨ q = x6) G G' → K (.agg (filV s2 left c t)) G') :
    F84_j0 (Ahs.runT ap (n + 1)) lim (n + 1) K (ptr x1) (ptr x6) (.int .i64 (left : Int)) G := by
  unfold F84_j0
  obtain ⟨s1, a1, a2, a3⟩ := hs.take (k := left) (by rw [encR_len]; exact hl)
  obtain ⟨s2, b1, b2, b3, b4⟩ := clip_c (n := n) (lim := lim) a2
  have ho := b2.one
  have lt1 := Heap.cells_lt h1
  have lt6 := Heap.cells_lt h6
  have t1 : astore lim G 1 (.ptr (some (x1, 0))) s2 = some (G.set x1 (.cells (filV s2 a c t))) := astore_cell h1 l1 ho.2 ho.1 (by show 0 < 4; omega) rfl
  have c1 : (G.set x1 (.cells (filV s2 a c t))).cells x1 = some (filV s2 a c t) := cells_set_same lt1
  have t2 : astore lim (G.set x1 (.cells (filV s2 a c t))) 1 (.ptr (some (x1, 1))) (.int .i64 (left : Int)) = some (G.set x1 (.cells (filV s2 left c t))) := by
    rw [astore_cell (cs' := filV s2 left c t) c1 l1 rfl rfl (by show 1 < 4; omega) rfl]
    simp only [Heap.set, Tr.set_set]
  have c2 : (G.set x1 (.cells (filV s2 left c t))).cells x1 = some (filV s2 left c t) := cells_set_same lt1
  have c6 : (G.set x1 (.cells (filV s2 left c t))).cells x6 = some Z := cells_set_other h6 (Ne.symm hne)
  have t3 : astore lim (G.set x1 (.cells (filV s2 left c t))) 4 (.ptr (some (x6, 0))) (.agg (filV s2 left c t)) = some ((G.set x1 (.cells (filV s2 left c t))).set x6 (.cells (filV s2 left c t))) := by
    rw [astore_at (x := .agg (filV s2 left c t)) (n := 4) (o := 0) c6 l6 rfl (by rw [hZ]; exact Nat.le_refl _) (filV_one ho.1 _ _ _)]
    show some ((G.set x1 (.cells (filV s2 left c t))).set x6 (.cells (put Z 0 (filV s2 left c t)))) = _
    rw [put_all (by rw [hZ]; rfl)]
  have c7 : ((G.set x1 (.cells (filV s2 left c t))).set x6 (.cells (filV s2 left c t))).cells x6 = some (filV s2 left c t) := cells_set_same (by rw [Heap.next_set]; exact lt6)
  have fr : Fram (fun q => q = x1 ∨ q = x6) G ((G.set x1 (.cells (filV s2 left c t))).set x6 (.cells (filV s2 left c t))) := (Fram.set (S := fun q => q = x1 ∨ q = x6) (.inl rfl)).set' (.inl (.inr rfl))
  (repeat (first | (with_reducible apply bindP_intro; (focus (first | with_reducible rfl | (simp only [walkR, get0, getS, Nat.zero_add, Nat.add_zero, Bool.not_true, Bool.not_false, decide_true, decide_false, reduceIte, and_self, Bool.false_eq_true, aload_one h1, a1, b1, t1, t2, aload_all (n := 4) c2 rfl, t3, aload_all (n := 4) c7 rfl] <;> with_reducible rfl)))) | (with_reducible apply bind2_intro; (focus (first | with_reducible rfl | (simp only [walkR, get0, getS, Nat.zero_add, Nat.add_zero, Bool.not_true, Bool.not_false, decide_true, decide_false, reduceIte, and_self, Bool.false_eq_true, aload_one h1, a1, b1, t1, t2, aload_all (n := 4) c2 rfl, t3, aload_all (n := 4) c7 rfl] <;> with_reducible rfl)))) | with_reducible apply cond_t | with_reducible apply cond_f))
  refine hK s2 _ ?_ (by rw [b4, a3]) fr
  rw [encR_take]
  exact b2.frame fr (fun q hq e => by
    rw [b4, a3] at hq
    have := hsb q hq
    rcases e with e | e
    · exact this.1 e
    · exact this.2 e)

theorem asliceStr_take {r : Str} {k : Nat} (hk : k ≤ r.length) : asliceStr (.str r) none (some (.int .i64 (k : Int))) = some (.str (r.take k)) := by
  simp only [asliceStr, natOr, natOf_nat, Option.bind_eq_bind, Option.bind_some]
  rw [if_pos ⟨hk, Nat.zero_le _⟩]
  simp

theorem tmod_fix (t : Int) {L : Int} (hL : 0 < L) : (t.tmod L < 0 → t.tmod L + L = t % L) ∧ (¬ t.tmod L < 0 → t.tmod L = t % L) := by
  have h := Int.tmod_eq_emod (a := t) (b := L)
  have h1 := Int.emod_nonneg t (show L ≠ 0 by omega)
  have h2 := Int.emod_lt_of_pos t hL
  split at h
  · constructor <;> intro _ <;> omega
  · rename_i hn
    constructor <;> intro g
    · omega
    · exfalso
      apply hn
      have h3 : ((L.natAbs : Nat) : Int) = L := by omega
      omega

theorem fcrash_c {n lim : Nat} {s ks ts : AVal} {f : Fil} {keep torn : List Int} {k : Nat} (hlim : lim ≤ H.next) (hs : Fz H 1 s (encR f.recs)) (hf : FilOK 1000000000000 f) (hsy : f.syn < f.recs.length) (hks : Sl H 1 ks (encI keep)) (hts : Sl H 1 ts (encI torn))
    (ho1 : ks.one = true) (ho2 : ts.one = true) (hi1 : ∀ x ∈ keep, inI64 x) (hi2 : ∀ x ∈ torn, inI64 x) (hkn : keep.length ≤ 1000000) (htn : torn.length ≤ 1000000) :
    ∃ r H', Ahs.runT ap (n + 2) lim (.fn 84) [.agg (filV s f.syn f.cut f.torn), .agg [ks, ts], .int .i64 (k : Int)] H = some (r, H') ∧ Keeps2 H H' ∧
      ∃ s2, r = .agg (filV s2 (leftF f keep torn k).syn (leftF f keep torn k).cut (leftF f keep torn k).torn) ∧ Fz H' 1 s2 (encR (leftF f keep torn k).recs) ∧ slBlk s2 = slBlk s := by
  have hcut : f.cut = false := by
    cases hc : f.cut with
    | false => rfl
    | true => have := hf.cutS hc; omega
  rw [hcut]
  refine F84_run a84 ?_
  unfold F84
  have hmany := hf.many
  have hsyn := hf.syn
  have hbo : (filV s f.syn false f.torn).all (fun v => v.one) = true := filV_one hs.one.1 _ _ _
  have hb2 : (([ks, ts] : List AVal).all fun v => v.one) = true := by simp only [List.all_cons, List.all_nil, ho1, ho2, Bool.and_true]
  have n1 : (H.push (.cells (filV s f.syn false f.torn))).next = H.next + 1 := Heap.next_push _ _
  have n2 : ((H.push (.cells (filV s f.syn false f.torn))).push (.cells [ks, ts])).next = H.next + 2 := by rw [Heap.next_push, n1]
  have n3 : (((H.push (.cells (filV s f.syn false f.torn))).push (.cells [ks, ts])).push (.cells ze3a7c2)).next = H.next + 3 := by rw [Heap.next_push, n2]
  have k3 : Keeps2 H (((H.push (.cells (filV s f.syn false f.torn))).push (.cells [ks, ts])).push (.cells ze3a7c2)) := ((Keeps2.push _ _).trans (.push _ _)).trans (.push _ _)
  have x1 : (((H.push (.cells (filV s f.syn false f.torn))).push (.cells [ks, ts])).push (.cells ze3a7c2)).cells H.next = some (filV s f.syn false f.torn) := cells_push_old (cells_push_old (cells_push_new H _))
  have x3 : (((H.push (.cells (filV s f.syn false f.torn))).push (.cells [ks, ts])).push (.cells ze3a7c2)).cells (H.push (.cells (filV s f.syn false f.torn))).next = some [ks, ts] := cells_push_old (cells_push_new _ _)
  have x6 : (((H.push (.cells (filV s f.syn false f.torn))).push (.cells [ks, ts])).push (.cells ze3a7c2)).cells ((H.push (.cells (filV s f.syn false f.torn))).push (.cells [ks, ts])).next = some ze3a7c2 := cells_push_new _ _
  generalize hG : (((H.push (.cells (filV s f.syn false f.torn))).push (.cells [ks, ts])).push (.cells ze3a7c2)) = G at *
  have hslt : ∀ q, slBlk s = some q → q < H.next := hs.lt
  have hkl := hks.len
  have htl := hts.len
  rw [encI_len] at hkl htl
  have hsl : alen false s = some (.int .i64 (f.recs.length : Int)) := by rw [hs.sl.len, encR_len]
  have hsG := hs.keep k3
  have hksG := hks.keep k3
  have htsG := hts.keep k3
  -- the tail
  have tail : ∀ kp : Nat, f.syn + kp = keptF f keep k → F84_j2 (Ahs.runT ap (n + 1)) lim (n + 1) (fun r H' => Keeps2 H H' ∧
      ∃ s2, r = .agg (filV s2 (leftF f keep torn k).syn (leftF f keep torn k).cut (leftF f keep torn k).torn) ∧ Fz H' 1 s2 (encR (leftF f keep torn k).recs) ∧ slBlk s2 = slBlk s) (.int .i64 (k : Int)) (ptr H.next) (ptr (H.push (.cells (filV s f.syn false f.torn))).next) (ptr ((H.push (.cells (filV s f.syn false f.torn))).push (.cells [ks, ts])).next) (.int .i64 (kp : Int)) G := by
    intro kp hkp
    have hle := keptF_le hf.syn keep k
    unfold F84_j2
    have hw : IntKind.i64.wrap ((f.syn : Int) + (kp : Int)) = ((keptF f keep k : Nat) : Int) := by rw [wrap_i64 (by omega) (by omega)]; omega
    generalize hL : keptF f keep k = L at *
    have st : astore lim G 1 (.ptr (some (H.next, 2))) (.bool (decide (L < f.recs.length))) = some (G.set H.next (.cells (filV s f.syn (decide (L < f.recs.length)) f.torn))) := astore_cell x1 (by omega) rfl rfl (by show 2 < 4; omega) rfl
    have kG : Keeps2 H (G.set H.next (.cells (filV s f.syn (decide (L < f.recs.length)) f.torn))) := k3.setNew (Nat.le_refl _) _
    have y1 : (G.set H.next (.cells (filV s f.syn (decide (L < f.recs.length)) f.torn))).cells H.next = some (filV s f.syn (decide (L < f.recs.length)) f.torn) := cells_set_same (by omega)
    have y3 : (G.set H.next (.cells (filV s f.syn (decide (L < f.recs.length)) f.torn))).cells (H.push (.cells (filV s f.syn false f.torn))).next = some [ks, ts] := cells_set_other x3 (by omega)
    have y6 : (G.set H.next (.cells (filV s f.syn (decide (L < f.recs.length)) f.torn))).cells ((H.push (.cells (filV s f.syn false f.torn))).push (.cells [ks, ts])).next = some ze3a7c2 := cells_set_other x6 (by omega)
    have hnG : (G.set H.next (.cells (filV s f.syn (decide (L < f.recs.length)) f.torn))).next = H.next + 3 := by rw [Heap.next_set, n3]
    generalize hG2 : G.set H.next (.cells (filV s f.syn (decide (L < f.recs.length)) f.torn)) = G2 at *
    have hsG2 := hs.keep kG
    have hksG2 := hks.keep kG
    have htsG2 := hts.keep kG
    -- the end
    have fin : ∀ (G3 : Heap) (tn : Str), Keeps2 H G3 → G3.next = H.next + 3 → G3.cells H.next = some (filV s f.syn (decide (L < f.recs.length)) tn) → G3.cells ((H.push (.cells (filV s f.syn false f.torn))).push (.cells [ks, ts])).next = some ze3a7c2 → tn = tornF f keep torn k →
        F84_j0 (Ahs.runT ap (n + 1)) lim (n + 1) (fun r H' => Keeps2 H H' ∧
          ∃ s2, r = .agg (filV s2 (leftF f keep torn k).syn (leftF f keep torn k).cut (leftF f keep torn k).torn) ∧ Fz H' 1 s2 (encR (leftF f keep torn k).recs) ∧ slBlk s2 = slBlk s) (ptr H.next) (ptr ((H.push (.cells (filV s f.syn false f.torn))).push (.cells [ks, ts])).next) (.int .i64 (L : Int)) G3 := by
      intro G3 tn q1 q2 q3 q4 q5
      refine fc_j0 q3 q4 rfl (by omega) (by omega) (by omega) (hs.keep q1) hle (fun q hq => by have := hslt q hq; omega) ?_
      intro s2 G' e1 e2 e3
      refine ⟨Fram.keeps q1 e3 (fun c hc e => by rcases e with e | e <;> omega), s2, ?_, ?_, e2⟩
      · simp only [leftF, hL, q5, hcut, Bool.false_or]
      · simp only [leftF, hL]; exact e1
    by_cases hLt : L < f.recs.length
    · have hd : decide ((L : Int) < (f.recs.length : Int)) = true := dT (by omega)
      have hd' : decide (L < f.recs.length) = true := dT hLt
      rw [hd'] at st y1 fin
      by_cases hkt : k < torn.length
      · have hdk : decide ((k : Int) < (torn.length : Int)) = true := dT (by omega)
        obtain ⟨p1, p2, p3⟩ := sl_at hsG2.sl (encR_get (List.getElem?_eq_getElem hLt))
        obtain ⟨p4, p5, p6⟩ := sl_at htsG2 (encI_get (List.getElem?_eq_getElem hkt))
        have hne : f.recs[L] ≠ [] := hf.ne _ (List.getElem_mem hLt)
        have hpos : 0 < f.recs[L].length := List.length_pos_iff.2 hne
        have hbl : f.recs[L].length ≤ 1000000000000 := by
          have hb := hf.bytes
          unfold bytesF at hb
          have : f.recs[L].length ≤ f.recs.flatten.length := by
            conv => rhs; rw [← List.take_append_drop L f.recs, List.drop_eq_getElem_cons hLt, List.flatten_append, List.flatten_cons, List.length_append, List.length_append]
            omega
          rw [List.length_append] at hb
          omega
        generalize hr : f.recs[L] = r at *
        generalize htt : torn[k] = t at *
        have hti : inI64 t := hi2 t (by rw [← htt]; exact List.getElem_mem hkt)
        have htf : tornF f keep torn k = r.take (t % (r.length : Int)).toNat := by
          unfold tornF
          rw [hL, List.getElem?_eq_getElem hLt, List.getElem?_eq_getElem hkt]
          simp only [hr, htt]
        have hrem := abin_rem (k := .i64) (a := t) (b := (r.length : Int)) (show ((r.length : Nat) : Int) ≠ 0 by omega)
        have fx := tmod_fix t (show (0 : Int) < (r.length : Int) by omega)
        have e1 := Int.emod_nonneg t (show ((r.length : Nat) : Int) ≠ 0 by omega)
        have e2 := Int.emod_lt_of_pos t (show (0 : Int) < (r.length : Int) by omega)
        have en : ((t % (r.length : Int)).toNat : Int) = t % (r.length : Int) := Int.toNat_of_nonneg e1
        -- the join
        have j1 : F84_j1 (Ahs.runT ap (n + 1)) lim (n + 1) (fun r H' => Keeps2 H H' ∧
            ∃ s2, r = .agg (filV s2 (leftF f keep torn k).syn (leftF f keep torn k).cut (leftF f keep torn k).torn) ∧ Fz H' 1 s2 (encR (leftF f keep torn k).recs) ∧ slBlk s2 = slBlk s) (ptr H.next) (ptr ((H.push (.cells (filV s f.syn false f.torn))).push (.cells [ks, ts])).next) (.int .i64 (L : Int)) (.str r) (.int .i64 (((t % (r.length : Int)).toNat : Nat) : Int)) G2 := by
          unfold F84_j1
          have sx := asliceStr_take (r := r) (k := (t % (r.length : Int)).toNat) (by omega)
          have sy : astore lim G2 1 (.ptr (some (H.next, 3))) (.str (r.take (t % (r.length : Int)).toNat)) = some (G2.set H.next (.cells (filV s f.syn true (r.take (t % (r.length : Int)).toNat)))) := astore_cell y1 (by omega) rfl rfl (by show 3 < 4; omega) rfl
          (repeat (first | (with_reducible apply bindP_intro; (focus (first | with_reducible rfl | (simp only [walkR, get0, getS, Nat.zero_add, Nat.add_zero, Bool.not_true, Bool.not_false, decide_true, decide_false, reduceIte, and_self, Bool.false_eq_true, sx, sy] <;> with_reducible rfl)))) | (with_reducible apply bind2_intro; (focus (first | with_reducible rfl | (simp only [walkR, get0, getS, Nat.zero_add, Nat.add_zero, Bool.not_true, Bool.not_false, decide_true, decide_false, reduceIte, and_self, Bool.false_eq_true, sx, sy] <;> with_reducible rfl)))) | with_reducible apply cond_t | with_reducible apply cond_f))
          exact fin _ _ (kG.setNew (Nat.le_refl _) _) (by rw [Heap.next_set]; exact hnG) (cells_set_same (by omega)) (cells_set_other y6 (by omega)) htf.symm
        by_cases hneg : t.tmod (r.length : Int) < 0
        · have hdn : decide (t.tmod (r.length : Int) < 0) = true := dT hneg
          have hww : IntKind.i64.wrap (t.tmod (r.length : Int) + (r.length : Int)) = (((t % (r.length : Int)).toNat : Nat) : Int) := by
            rw [fx.1 hneg, wrap_i64 (by omega) (by omega), en]
          (repeat (first | (with_reducible apply bindP_intro; (focus (first | with_reducible rfl | (simp only [walkR, get0, getS, Nat.zero_add, Nat.add_zero, Bool.not_true, Bool.not_false, decide_true, decide_false, reduceIte, and_self, Bool.false_eq_true, aload_one x1, hw, hsl, hd, st, aload_one y1, aload_one y3, htl, hdk, p2, p3, p5, p6, hrem, hdn, hww] <;> with_reducible rfl)))) | (with_reducible apply bind2_intro; (focus (first | with_reducible rfl | (simp only [walkR, get0, getS, Nat.zero_add, Nat.add_zero, Bool.not_true, Bool.not_false, decide_true, decide_false, reduceIte, and_self, Bool.false_eq_true, aload_one x1, hw, hsl, hd, st, aload_one y1, aload_one y3, htl, hdk, p2, p3, p5, p6, hrem, hdn, hww] <;> with_reducible rfl)))) | with_reducible apply cond_t | with_reducible apply cond_f))
          exact j1
        · have hdn : decide (t.tmod (r.length : Int) < 0) = false := dF hneg
          have hww : t.tmod (r.length : Int) = (((t % (r.length : Int)).toNat : Nat) : Int) := by rw [fx.2 hneg, en]
          have hdn' : decide ((((t % (r.length : Int)).toNat : Nat) : Int) < 0) = false := dF (by omega)
          (repeat (first | (with_reducible apply bindP_intro; (focus (first | with_reducible rfl | (simp only [walkR, get0, getS, Nat.zero_add, Nat.add_zero, Bool.not_true, Bool.not_false, decide_true, decide_false, reduceIte, and_self, Bool.false_eq_true, aload_one x1, hw, hsl, hd, st, aload_one y1, aload_one y3, htl, hdk, p2, p3, p5, p6, hrem, hww, hdn'] <;> with_reducible rfl)))) | (with_reducible apply bind2_intro; (focus (first | with_reducible rfl | (simp only [walkR, get0, getS, Nat.zero_add, Nat.add_zero, Bool.not_true, Bool.not_false, decide_true, decide_false, reduceIte, and_self, Bool.false_eq_true, aload_one x1, hw, hsl, hd, st, aload_one y1, aload_one y3, htl, hdk, p2, p3, p5, p6, hrem, hww, hdn'] <;> with_reducible rfl)))) | with_reducible apply cond_t | with_reducible apply cond_f))
          exact j1
      · have hdk : decide ((k : Int) < (torn.length : Int)) = false := dF (by omega)
        (repeat (first | (with_reducible apply bindP_intro; (focus (first | with_reducible rfl | (simp only [walkR, get0, getS, Nat.zero_add, Nat.add_zero, Bool.not_true, Bool.not_false, decide_true, decide_false, reduceIte, and_self, Bool.false_eq_true, aload_one x1, hw, hsl, hd, st, aload_one y1, aload_one y3, htl, hdk] <;> with_reducible rfl)))) | (with_reducible apply bind2_intro; (focus (first | with_reducible rfl | (simp only [walkR, get0, getS, Nat.zero_add, Nat.add_zero, Bool.not_true, Bool.not_false, decide_true, decide_false, reduceIte, and_self, Bool.false_eq_true, aload_one x1, hw, hsl, hd, st, aload_one y1, aload_one y3, htl, hdk] <;> with_reducible rfl)))) | with_reducible apply cond_t | with_reducible apply cond_f))
        refine fin _ _ kG hnG y1 y6 ?_
        unfold tornF
        rw [List.getElem?_eq_none (l := torn) (by omega)]
        split
        · rename_i heq; simp at heq
        · rfl
    · have hd : decide ((L : Int) < (f.recs.length : Int)) = false := dF (by omega)
      have hd' : decide (L < f.recs.length) = false := dF hLt
      rw [hd'] at st y1 fin
      (repeat (first | (with_reducible apply bindP_intro; (focus (first | with_reducible rfl | (simp only [walkR, get0, getS, Nat.zero_add, Nat.add_zero, Bool.not_true, Bool.not_false, decide_true, decide_false, reduceIte, and_self, Bool.false_eq_true, aload_one x1, hw, hsl, hd, st, aload_one y1] <;> with_reducible rfl)))) | (with_reducible apply bind2_intro; (focus (first | with_reducible rfl | (simp only [walkR, get0, getS, Nat.zero_add, Nat.add_zero, Bool.not_true, Bool.not_false, decide_true, decide_false, reduceIte, and_self, Bool.false_eq_true, aload_one x1, hw, hsl, hd, st, aload_one y1] <;> with_reducible rfl)))) | with_reducible apply cond_t | with_reducible apply cond_f))
      refine fin _ _ kG hnG y1 y6 ?_
      unfold tornF
      rw [hL, List.getElem?_eq_none (l := f.recs) (by omega)]
  have kl : decide ((k : Int) < (keep.length : Int)) = decide (k < keep.length) := by rw [Bool.eq_iff_iff]; simp
  by_cases hk : k < keep.length
  · have hdk : decide ((k : Int) < (keep.length : Int)) = true := dT (by omega)
    obtain ⟨p1, p2, p3⟩ := sl_at hksG (encI_get (List.getElem?_eq_getElem hk))
    have hx : inI64 keep[k] := hi1 _ (List.getElem_mem hk)
    have hkp : keepN f keep k = min keep[k].toNat (f.recs.length - f.syn) := by unfold keepN; rw [List.getElem?_eq_getElem hk]
    have hmin := Nat.min_le_right keep[k].toNat (f.recs.length - f.syn)
    have hsub : IntKind.i64.wrap ((f.recs.length : Int) - (f.syn : Int)) = (f.recs.length : Int) - (f.syn : Int) := wrap_i64 (by omega) (by omega)
    have hmm : min (max keep[k] 0) ((f.recs.length : Int) - (f.syn : Int)) = ((keepN f keep k : Nat) : Int) := by rw [hkp]; omega
    (repeat (first | (with_reducible apply bindP_intro; (focus (first | with_reducible rfl | (simp only [walkR, get0, getS, Nat.zero_add, Nat.add_zero, Bool.not_true, Bool.not_false, decide_true, decide_false, reduceIte, and_self, Bool.false_eq_true, hbo, hb2, hG, aload_one x3, hkl, hdk, p2, p3, max_int, aload_one x1, hsl, hsub, min_int, hmm] <;> with_reducible rfl)))) | (with_reducible apply bind2_intro; (focus (first | with_reducible rfl | (simp only [walkR, get0, getS, Nat.zero_add, Nat.add_zero, Bool.not_true, Bool.not_false, decide_true, decide_false, reduceIte, and_self, Bool.false_eq_true, hbo, hb2, hG, aload_one x3, hkl, hdk, p2, p3, max_int, aload_one x1, hsl, hsub, min_int, hmm] <;> with_reducible rfl)))) | with_reducible apply cond_t | with_reducible apply cond_f))
    rw [hG]
    exact tail _ rfl
  · have hdk : decide ((k : Int) < (keep.length : Int)) = false := dF (by omega)
    have hkp : keepN f keep k = 0 := by unfold keepN; rw [List.getElem?_eq_none (by omega)]
    (repeat (first | (with_reducible apply bindP_intro; (focus (first | with_reducible rfl | (simp only [walkR, get0, getS, Nat.zero_add, Nat.add_zero, Bool.not_true, Bool.not_false, decide_true, decide_false, reduceIte, and_self, Bool.false_eq_true, hbo, hb2, hG, aload_one x3, hkl, hdk] <;> with_reducible rfl)))) | (with_reducible apply bind2_intro; (focus (first | with_reducible rfl | (simp only [walkR, get0, getS, Nat.zero_add, Nat.add_zero, Bool.not_true, Bool.not_false, decide_true, decide_false, reduceIte, and_self, Bool.false_eq_true, hbo, hb2, hG, aload_one x3, hkl, hdk] <;> with_reducible rfl)))) | with_reducible apply cond_t | with_reducible apply cond_f))
    rw [hG]
    exact tail 0 (by unfold keptF; rw [hkp])

/-- A file is laid under a name, however the files are then told. -/
theorem DiskAt.put2 {lim : Nat} (h : DiskAt M H b m D) (hMm : M m) (hlm : lim ≤ m) (n : Str) {v : AVal} {f : Fil} (hv : FilAt M H v f) {fs' : Fs} (hp : PutF D.fs n f fs') :
    ∃ H', amapUpdate lim H false [.str] (.map (some m)) (.str n) v = some H' ∧ DiskAt M H' b m { D with fs := fs' } ∧ Fram (dft b m) H H' := by
  obtain ⟨x, h1, h2⟩ := h.map.update hlm n hv
  have hfr : Fram (fun c => c = m) H (H.set m x) := .set rfl
  refine ⟨_, h1, ⟨?_, ?_⟩, hfr.weaken fun c _ e => .inr e⟩
  · exact cells_set_other h.cells h.ne
  · exact (h2 _ hp).mono rfl fun k v a _ hR => hR.frame hfr fun c e => by rw [e]; exact hMm

theorem mid_put {P xs : Fs} {x : Str × Fil} {g : Fil} (hn : ((P ++ x :: xs).map (·.1)).Nodup) : PutF (P ++ x :: xs) x.1 g (P ++ (x.1, g) :: xs) := by
  have hk : (P ++ (x.1, g) :: xs).map (·.1) = (P ++ x :: xs).map (·.1) := by simp
  refine ⟨by rw [hk]; exact hn, fun k a => ?_⟩
  have hP : ∀ a, (x.1, a) ∉ P := by
    intro a ha
    rw [List.map_append, List.nodup_append] at hn
    exact hn.2.2 _ (mem_keys.2 ⟨a, ha⟩) x.1 (by simp) rfl
  have hX : ∀ a, (x.1, a) ∉ xs := by
    intro a ha
    rw [List.map_append, List.nodup_append] at hn
    have := hn.2.1
    rw [List.map_cons, List.nodup_cons] at this
    exact this.1 (mem_keys.2 ⟨a, ha⟩)
  simp only [List.mem_append, List.mem_cons]
  constructor
  · rintro (h | h | h)
    · exact .inr ⟨fun e => hP a (by rw [← e]; exact h), .inl h⟩
    · simp at h; exact .inl h
    · exact .inr ⟨fun e => hX a (by rw [← e]; exact h), .inr (.inr h)⟩
  · rintro (⟨rfl, rfl⟩ | ⟨hne, h | h | h⟩)
    · exact .inr (.inl rfl)
    · exact .inl h
    · exfalso; apply hne; rw [← h]
    · exact .inr (.inr h)

theorem mid_lk {P xs : Fs} {x : Str × Fil} (hn : ((P ++ x :: xs).map (·.1)).Nodup) : lk (P ++ x :: xs) x.1 = some x.2 := lk_of_mem hn (by simp)

theorem crash_loop {n lim fuse N : Nat} {keep torn : List Int} {ks ts l : AVal} {x3 : Nat} {ns : List Str} {K : AVal → Heap → Prop} (hn : ns.Nodup) (hMb : M b) (hMm : M m) (hlm : lim ≤ m)
    (ho1 : ks.one = true) (ho2 : ts.one = true) (hi1 : ∀ x ∈ keep, inI64 x) (hi2 : ∀ x ∈ torn, inI64 x) (hkn : keep.length ≤ 1000000) (htn : torn.length ≤ 1000000) {H0 : Heap} (hks : Sl H0 1 ks (encI keep)) (hts : Sl H0 1 ts (encI torn)) (hb0 : H0.next ≤ b) (hm0 : H0.next ≤ m) (hb3 : ∀ c, slBlk l = some c → ¬ dft b m c) (hx3 : ¬ dft b m x3)
    (hN : ns.length < 1000000000000) :
    ∀ (rest P : Fs) (k j : Nat) (H : Heap), (P ++ rest).map (·.1) = ns → rest.length < j → k ≤ P.length → DiskAt M H b m ⟨P ++ rest, true, fuse⟩ → lim ≤ H.next → (∀ y f, (y, f) ∈ rest → FilOK 1000000000000 f) → H.cells x3 = some [ks, ts] → Keeps2 H0 H → Sl H 1 l (encR ns) →
      (∀ H', DiskAt M H' b m ⟨P ++ crashFs keep torn k rest, true, fuse⟩ → Fram (dft b m) H H' → K (.tup []) H') →
      F47_l0 (Ahs.runT ap (n + 2)) lim N K j (ptr b) (ptr x3) (.int .i64 (k : Int)) l (.int .i64 (ns.length : Int)) (.int .i64 (P.length : Int)) H
  | _, _, _, 0, _, _, hj, _, _, _, _, _, _, _, _ => by omega
  | [], P, k, j + 1, H, hns, hj, hkP, h, hl, hf, c3, k0, s3, hK => by
    show F47_s0 _ _ _ _ (F47_l0 _ _ _ _ j) _ _ _ _ _ _ _
    unfold F47_s0
    have hlen : P.length = ns.length := by rw [← hns]; simp
    have hd : decide ((P.length : Int) < (ns.length : Int)) = false := dF (by omega)
    (repeat (first | (with_reducible apply bindP_intro; (focus (first | with_reducible rfl | (simp only [walkR, get0, getS, Nat.zero_add, Nat.add_zero, Bool.not_true, Bool.not_false, decide_true, decide_false, reduceIte, and_self, Bool.false_eq_true, hd] <;> with_reducible rfl)))) | (with_reducible apply bind2_intro; (focus (first | with_reducible rfl | (simp only [walkR, get0, getS, Nat.zero_add, Nat.add_zero, Bool.not_true, Bool.not_false, decide_true, decide_false, reduceIte, and_self, Bool.false_eq_true, hd] <;> with_reducible rfl)))) | with_reducible apply cond_t | with_reducible apply cond_f))
    unfold F47_j0
    exact hK H h (.refl _ _)
  | x :: xs, P, k, j + 1, H, hns, hj, hkP, h, hl, hf, c3, k0, s3, hK => by
    show F47_s0 _ _ _ _ (F47_l0 _ _ _ _ j) _ _ _ _ _ _ _
    unfold F47_s0
    have hlen : P.length + (xs.length + 1) = ns.length := by rw [← hns]; simp
    have hd : decide ((P.length : Int) < (ns.length : Int)) = true := dT (by omega)
    have hnx : ns[P.length]? = some x.1 := by rw [← hns]; simp
    obtain ⟨p1, p2, p3⟩ := sl_at s3 (encR_get hnx)
    have hnd : ((P ++ x :: xs).map (·.1)).Nodup := by rw [hns]; exact hn
    obtain ⟨v, ok, hv, hok, hlk⟩ := h.look x.1
    have hlk' := hlk false
    have hll : lk (P ++ x :: xs) x.1 = some x.2 := mid_lk hnd
    have hv' : FilAt M H v x.2 := by
      have : ((lk (P ++ x :: xs) x.1).getD noFil) = x.2 := by rw [hll]; rfl
      rw [← this]; exact hv
    have hv0 := hv'
    obtain ⟨cs, rfl, hcl, hco, st⟩ := fil_st (lim := lim) (H1 := H) hl hv'
    obtain ⟨s, q1, q2, q3⟩ := hv0
    simp only [AVal.agg.injEq] at q1
    subst q1
    have hfo := hf x.1 x.2 (by simp)
    have lx : ∀ o, aload (H.push (.cells [s, .int .i64 (x.2.syn : Int), .bool x.2.cut, .str x.2.torn])) none (.ptr (some (H.next, o))) = ([s, .int .i64 (x.2.syn : Int), .bool x.2.cut, .str x.2.torn] : List AVal)[o]? := fun o => aload_new1 _ _ _
    have hsl : alen false s = some (.int .i64 (x.2.recs.length : Int)) := by rw [q2.sl.len, encR_len]
    have kx : Keeps2 H (H.push (.cells [s, .int .i64 (x.2.syn : Int), .bool x.2.cut, .str x.2.torn])) := .push _ _
    have nx : (H.push (.cells [s, .int .i64 (x.2.syn : Int), .bool x.2.cut, .str x.2.torn])).next = H.next + 1 := Heap.next_push _ _
    have hi : IntKind.i64.wrap ((P.length : Int) + 1) = ((P.length + 1 : Nat) : Int) := i64_succ (by omega)
    have hlt := h.ltb
    have hltm := h.ltm
    -- the join: the value g is laid
    have join : ∀ (G : Heap) (g : Fil) (cs : List AVal) (k' : Nat), Keeps2 H G → G.cells H.next = some cs → cs.length = 4 → FilAt M G (.agg cs) g → k' ≤ P.length + 1 →
        (∀ H', DiskAt M H' b m ⟨(P ++ [(x.1, g)]) ++ crashFs keep torn k' xs, true, fuse⟩ → Fram (dft b m) H H' → K (.tup []) H') →
        F47_j1 (Ahs.runT ap (n + 2)) lim N K (F47_l0 (Ahs.runT ap (n + 2)) lim N K j) (ptr b) (ptr x3) (.int .i64 (k' : Int)) (.str x.1) (.ptr (some (H.next, 0))) l (.int .i64 (ns.length : Int)) (.int .i64 (P.length : Int)) G := by
      intro G g cs k' kG cG hc4 vG hk' hK'
      unfold F47_j1
      have hG := h.keep kG
      obtain ⟨G2, u1, u2, u3⟩ := hG.put2 (lim := lim) hMm hlm x.1 vG (mid_put (g := g) hnd)
      have fG : Fram (dft b m) H G2 := (Fram.of kG).trans u3 (fun c _ e => e)
      (repeat (first | (with_reducible apply bindP_intro; (focus (first | with_reducible rfl | (simp only [walkR, get0, getS, Nat.zero_add, Nat.add_zero, Bool.not_true, Bool.not_false, decide_true, decide_false, reduceIte, and_self, Bool.false_eq_true, aload_one hG.cells, aload_all (n := 4) cG hc4, u1, hi] <;> with_reducible rfl)))) | (with_reducible apply bind2_intro; (focus (first | with_reducible rfl | (simp only [walkR, get0, getS, Nat.zero_add, Nat.add_zero, Bool.not_true, Bool.not_false, decide_true, decide_false, reduceIte, and_self, Bool.false_eq_true, aload_one hG.cells, aload_all (n := 4) cG hc4, u1, hi] <;> with_reducible rfl)))) | with_reducible apply cond_t | with_reducible apply cond_f))
      have hPl : (P ++ [(x.1, g)]).length = P.length + 1 := by simp
      rw [← hPl]
      refine crash_loop (fuse := fuse) hn hMb hMm hlm ho1 ho2 hi1 hi2 hkn htn hks hts hb0 hm0 hb3 hx3 hN xs (P ++ [(x.1, g)]) k' j G2 (by rw [← hns]; simp) (by simp at hj; omega) (by rw [hPl]; exact hk') ?_ (by have := fG.next; omega) (fun y f hm => hf y f (by simp [hm])) (fG.cells c3 hx3) (Fram.keeps k0 fG fun c hc e => by rcases e with e | e <;> omega) (s3.frame fG hb3) ?_
      · have : P ++ [(x.1, g)] ++ xs = P ++ (x.1, g) :: xs := by simp
        rw [this]; exact u2
      · intro H' d1 d2
        exact hK' H' d1 (fG.trans d2 (fun c _ e => e))
    by_cases hs : x.2.syn < x.2.recs.length
    · have hds : decide ((x.2.syn : Int) < (x.2.recs.length : Int)) = true := dT (by omega)
      obtain ⟨r, G, e1, e2, s4, e3, e4, e5⟩ := fcrash_c (n := n) (lim := lim) (k := k) (by omega) (q2.keep kx) hfo hs (hks.keep (k0.trans kx)) (hts.keep (k0.trans kx)) ho1 ho2 hi1 hi2 hkn htn
      have hxG : G.cells H.next = some [s, .int .i64 (x.2.syn : Int), .bool x.2.cut, .str x.2.torn] := e2.cells (cells_push_new H _)
      have ho4 := e4.one
      have hGn : H.next < G.next := Heap.cells_lt hxG
      have st2 : astore lim G 4 (.ptr (some (H.next, 0))) (.agg (filV s4 (leftF x.2 keep torn k).syn (leftF x.2 keep torn k).cut (leftF x.2 keep torn k).torn)) = some (G.set H.next (.cells (filV s4 (leftF x.2 keep torn k).syn (leftF x.2 keep torn k).cut (leftF x.2 keep torn k).torn))) := by
        rw [astore_at (x := .agg (filV s4 (leftF x.2 keep torn k).syn (leftF x.2 keep torn k).cut (leftF x.2 keep torn k).torn)) (n := 4) (o := 0) hxG hl rfl (Nat.le_refl _) (filV_one ho4.1 _ _ _)]
        rfl
      have kG : Keeps2 H G := kx.trans e2
      have hkw : IntKind.i64.wrap ((k : Int) + 1) = ((k + 1 : Nat) : Int) := i64_succ (by omega)
      have c3' := kx.cells c3
      subst e3
      (repeat (first | (with_reducible apply bindP_intro; (focus (first | with_reducible rfl | (simp only [walkR, get0, getS, Nat.zero_add, Nat.add_zero, Bool.not_true, Bool.not_false, decide_true, decide_false, reduceIte, and_self, Bool.false_eq_true, hd, p2, p3, aload_one h.cells, hlk', st, lx, hsl, hds, aload_all (n := 4) (cells_push_new H [s, .int .i64 (x.2.syn : Int), .bool x.2.cut, .str x.2.torn]) rfl, aload_all (n := 2) c3' rfl, e1, st2, hkw] <;> with_reducible rfl)))) | (with_reducible apply bind2_intro; (focus (first | with_reducible rfl | (simp only [walkR, get0, getS, Nat.zero_add, Nat.add_zero, Bool.not_true, Bool.not_false, decide_true, decide_false, reduceIte, and_self, Bool.false_eq_true, hd, p2, p3, aload_one h.cells, hlk', st, lx, hsl, hds, aload_all (n := 4) (cells_push_new H [s, .int .i64 (x.2.syn : Int), .bool x.2.cut, .str x.2.torn]) rfl, aload_all (n := 2) c3' rfl, e1, st2, hkw] <;> with_reducible rfl)))) | with_reducible apply cond_t | with_reducible apply cond_f))
      refine join _ (leftF x.2 keep torn k) _ (k + 1) (kG.setNew (Nat.le_refl _) _) (cells_set_same hGn) rfl ⟨s4, rfl, e4.frame (Fram.set (S := fun c => c = H.next) rfl) (fun c hc e => by
        rw [e5] at hc
        have := q2.lt c hc
        omega), fun c hc e => q3 c (by rw [← e5]; exact hc) e⟩ (by omega) ?_
      intro H' d1 d2
      refine hK H' ?_ d2
      have : P ++ crashFs keep torn k (x :: xs) = P ++ [(x.1, leftF x.2 keep torn k)] ++ crashFs keep torn (k + 1) xs := by
        rw [crashFs, if_pos hs]; simp
      rw [this]; exact d1
    · have hds : decide ((x.2.syn : Int) < (x.2.recs.length : Int)) = false := dF (by omega)
      (repeat (first | (with_reducible apply bindP_intro; (focus (first | with_reducible rfl | (simp only [walkR, get0, getS, Nat.zero_add, Nat.add_zero, Bool.not_true, Bool.not_false, decide_true, decide_false, reduceIte, and_self, Bool.false_eq_true, hd, p2, p3, aload_one h.cells, hlk', st, lx, hsl, hds] <;> with_reducible rfl)))) | (with_reducible apply bind2_intro; (focus (first | with_reducible rfl | (simp only [walkR, get0, getS, Nat.zero_add, Nat.add_zero, Bool.not_true, Bool.not_false, decide_true, decide_false, reduceIte, and_self, Bool.false_eq_true, hd, p2, p3, aload_one h.cells, hlk', st, lx, hsl, hds] <;> with_reducible rfl)))) | with_reducible apply cond_t | with_reducible apply cond_f))
      refine join _ x.2 _ k kx (cells_push_new H _) rfl ⟨s, rfl, q2.keep kx, q3⟩ (by omega) ?_
      intro H' d1 d2
      refine hK H' ?_ d2
      have : P ++ crashFs keep torn k (x :: xs) = P ++ [(x.1, x.2)] ++ crashFs keep torn k xs := by
        rw [crashFs, if_neg hs]; simp
      rw [this]; exact d1

theorem crash_c {n lim K : Nat} {keep torn : List Int} {ks ts : AVal} (h : DiskAt M H b m D) (hD : DskOK K D) (hK : K ≤ 1000000000) (hMb : M b) (hMm : M m) (hlb : lim ≤ b) (hlm : lim ≤ m) (hKn : K < n)
    {H0 : Heap} (hks : Sl H0 1 ks (encI keep)) (hts : Sl H0 1 ts (encI torn)) (hb0 : H0.next ≤ b) (hm0 : H0.next ≤ m) (k0 : Keeps2 H0 H) (ho1 : ks.one = true) (ho2 : ts.one = true) (hi1 : ∀ x ∈ keep, inI64 x) (hi2 : ∀ x ∈ torn, inI64 x) (hkn : keep.length ≤ 1000000) (htn : torn.length ≤ 1000000) :
    ∃ v H', Ahs.runT ap (n + 3) lim (.fn 47) [ptr b, .agg [ks, ts]] H = some (v, H') ∧ DiskAt M H' b m (crashD D keep torn) ∧ Fram (dft b m) H H' := by
  refine F47_run a47 ?_
  unfold F47
  have hlt := h.ltb
  have hltm := h.ltm
  have hb : (([ks, ts] : List AVal).all fun v => v.one) = true := by simp only [List.all_cons, List.all_nil, ho1, ho2, Bool.and_true]
  have kx : Keeps2 H (H.push (.cells [ks, ts])) := .push _ _
  have nx : (H.push (.cells [ks, ts])).next = H.next + 1 := Heap.next_push _ _
  have h1 := h.keep kx
  have st : astore lim (H.push (.cells [ks, ts])) 1 (.ptr (some (b, 1))) (.bool true) = some ((H.push (.cells [ks, ts])).set b (.cells [.map (some m), .bool true, .int .i64 (D.fuse : Int)])) := astore_cell h1.cells hlb rfl rfl (by show 1 < 3; omega) rfl
  have h2 : DiskAt M ((H.push (.cells [ks, ts])).set b (.cells [.map (some m), .bool true, .int .i64 (D.fuse : Int)])) b m ⟨D.fs, true, D.fuse⟩ := h1.setb (D' := ⟨D.fs, true, D.fuse⟩) hMb rfl
  have f2 : Fram (dft b m) H ((H.push (.cells [ks, ts])).set b (.cells [.map (some m), .bool true, .int .i64 (D.fuse : Int)])) := (Fram.of kx).set' (.inl (.inl rfl))
  have cx : ((H.push (.cells [ks, ts])).set b (.cells [.map (some m), .bool true, .int .i64 (D.fuse : Int)])).cells H.next = some [ks, ts] := cells_set_other (cells_push_new H _) (by omega)
  have n2 : ((H.push (.cells [ks, ts])).set b (.cells [.map (some m), .bool true, .int .i64 (D.fuse : Int)])).next = H.next + 1 := by rw [Heap.next_set, nx]
  generalize (H.push (.cells [ks, ts])).set b (.cells [.map (some m), .bool true, .int .i64 (D.fuse : Int)]) = H2 at *
  have hD2 : DskOK K ⟨D.fs, true, D.fuse⟩ := ⟨hD.asc, hD.names, hD.files, hD.len, hD.fuse⟩
  obtain ⟨l, H3, e1, e2, e3, e4⟩ := list_c (n := n + 1) (lim := lim) h2 hD2 hK
  have hll : alen false l = some (.int .i64 ((D.fs.map (·.1)).length : Nat)) := by rw [e2.len, encR_len]
  have f3 : Fram (dft b m) H H3 := f2.trans (.of (S := dft b m) e3) (fun c _ e => e)
  have hlen := hD.len
  have e3n := e3.next
  (repeat (first | (with_reducible apply bindP_intro; (focus (first | with_reducible rfl | (simp only [walkR, get0, getS, Nat.zero_add, Nat.add_zero, Bool.not_true, Bool.not_false, decide_true, decide_false, reduceIte, and_self, Bool.false_eq_true, hb, none_c h1, st, e1, hll] <;> with_reducible rfl)))) | (with_reducible apply bind2_intro; (focus (first | with_reducible rfl | (simp only [walkR, get0, getS, Nat.zero_add, Nat.add_zero, Bool.not_true, Bool.not_false, decide_true, decide_false, reduceIte, and_self, Bool.false_eq_true, hb, none_c h1, st, e1, hll] <;> with_reducible rfl)))) | with_reducible apply cond_t | with_reducible apply cond_f))
  refine crash_loop (n := n) (P := []) (rest := D.fs) (k := 0) (ns := D.fs.map (·.1)) (fuse := D.fuse) (M := M) hD.asc.nodup hMb hMm hlm ho1 ho2 hi1 hi2 hkn htn hks hts hb0 hm0 (fun c hc e => by have := e4 c hc; rcases e with e | e <;> omega) (fun e => by rcases e with e | e <;> omega) (by simp; omega) (x3 := H.next) (n + 2) H3 rfl (by omega) (Nat.le_refl _) (h2.keep e3) (by omega) (fun y f hm => (hD.files y f hm).mono (by omega)) (e3.cells cx) (Fram.keeps k0 f3 fun c hc e => by rcases e with e | e <;> omega) e2 ?_
  intro H' d1 d2
  exact ⟨d1, f3.trans d2 (fun c _ e => e)⟩

end

/-! The disk's acts, as they are handed in; what is done. -/

structure ActAt (H : Heap) (x : List AVal) (p : PAct) : Prop where
  ex : ∃ ks ts, x = [.int .u8 p.act, .str p.a, .str p.b, .int .i64 p.n, ks, ts] ∧ Sl H 1 ks (encI p.keep) ∧ Sl H 1 ts (encI p.torn) ∧ ks.one = true ∧ ts.one = true
  n : inI64 p.n
  keep : ∀ y ∈ p.keep, inI64 y
  torn : ∀ y ∈ p.torn, inI64 y

structure ActsAt (H : Heap) (v : AVal) (l : List PAct) : Prop where
  len : l.length ≤ maxLen
  ex : ∃ xs, Sl H 6 v xs ∧ l.length = xs.length ∧ ∀ (i : Nat) x p, xs[i]? = some x → l[i]? = some p → ActAt H x p

def crashTy : Ty := .slice (.int .i64 .nil) (.slice (.int .i64 .nil) .nil)
def actTy : Ty := .int .u8 (.str (.str (.int .i64 crashTy)))

theorem ActAt.keepH {H H' : Heap} (hk : Keeps2 H H') {x : List AVal} {p : PAct} (h : ActAt H x p) : ActAt H' x p := by
  obtain ⟨ks, ts, h1, h2, h3, h4, h5⟩ := h.ex
  exact ⟨⟨ks, ts, h1, h2.keep hk, h3.keep hk, h4, h5⟩, h.n, h.keep, h.torn⟩
theorem ActsAt.keepH {H H' : Heap} (hk : Keeps2 H H') {v : AVal} {l : List PAct} (h : ActsAt H v l) : ActsAt H' v l := by
  obtain ⟨xs, h1, h2, h3⟩ := h.ex
  exact ⟨h.len, xs, h1.keep hk, h2, fun i x p e e' => (h3 i x p e e').keepH hk⟩

theorem wf_ints {H : Heap} {v : AVal} (h : ∃ xs, Sl H 1 v xs ∧ xs.length ≤ maxLen ∧ ∀ x ∈ xs, Wf H (.int .i64 .nil) x) : ∃ l : List Int, Sl H 1 v (encI l) ∧ ∀ y ∈ l, inI64 y := by
  obtain ⟨xs, h1, h2, h3⟩ := h
  obtain ⟨l, hl, hq⟩ := wf_list (α := Int) (Q := fun x a => x = [.int .i64 a] ∧ inI64 a) (fun x hx => by
    obtain ⟨n, vs', rfl, hn, rfl⟩ := hx
    have := wfI64 hn
    exact ⟨n, rfl, by unfold inI64; omega⟩) h3
  have e := wf_eqs (enc := fun a => [.int .i64 a]) hl fun i x a e1 e2 => (hq i x a e1 e2).1
  refine ⟨l, by unfold encI; rw [← e]; exact h1, fun y hy => ?_⟩
  obtain ⟨i, hi, rfl⟩ := List.getElem_of_mem hy
  exact (hq i xs[i] l[i] (List.getElem?_eq_getElem (by omega)) (List.getElem?_eq_getElem hi)).2

theorem wf_crash {H : Heap} {x : List AVal} (h : Wf H crashTy x) : ∃ ks ts keep torn, x = [ks, ts] ∧ Sl H 1 ks (encI keep) ∧ Sl H 1 ts (encI torn) ∧ ks.one = true ∧ ts.one = true ∧ (∀ y ∈ keep, inI64 y) ∧ ∀ y ∈ torn, inI64 y := by
  obtain ⟨ks, _, rfl, o1, s1, ts, _, rfl, o2, s2, rfl⟩ := h
  obtain ⟨keep, k1, k2⟩ := wf_ints s1
  obtain ⟨torn, t1, t2⟩ := wf_ints s2
  exact ⟨ks, ts, keep, torn, rfl, k1, t1, o1, o2, k2, t2⟩

theorem wf_act {H : Heap} {x : List AVal} (h : Wf H actTy x) : ∃ p : PAct, ActAt H x p := by
  obtain ⟨d, _, rfl, hd, a, _, rfl, ha, b, _, rfl, hb, n, _, rfl, hn, hc⟩ := h
  obtain ⟨ks, ts, keep, torn, rfl, k1, t1, o1, o2, k2, t2⟩ := wf_crash hc
  have := wfI64 hn
  exact ⟨⟨d, a, b, n, keep, torn⟩, ⟨ks, ts, rfl, k1, t1, o1, o2⟩, by unfold inI64; show _ ≤ n ∧ n < _; omega, k2, t2⟩

theorem wf_acts {H : Heap} {v : AVal} (h : Wf H (.slice actTy .nil) [v]) : ∃ l : List PAct, ActsAt H v l := by
  obtain ⟨v', _, e, _, ⟨xs, h1, h2, h3⟩, _⟩ := h
  simp only [List.cons.injEq] at e
  obtain ⟨rfl, _⟩ := e
  obtain ⟨l, hl, hq⟩ := wf_list (fun x hx => wf_act hx) h3
  exact ⟨l, by rw [hl]; exact h2, xs, h1, hl, hq⟩

section
variable {M : Nat → Prop} {H : Heap} {b m : Nat} {D : Dsk}

theorem ActsAt.alen {v : AVal} {l : List PAct} (h : ActsAt H v l) : Ahs.alen false v = some (.int .i64 (l.length : Int)) := by
  obtain ⟨xs, h1, h2, _⟩ := h.ex
  rw [h1.len, h2]

/-- The i-th act. -/
theorem ActsAt.at' {v : AVal} {l : List PAct} (h : ActsAt H v l) {i : Nat} {p : PAct} (hp : l[i]? = some p) : ∃ q ks ts, aindexAddr none 6 v (.int .i64 (i : Int)) = some q ∧ aload H (some 6) q = some (.agg [.int .u8 p.act, .str p.a, .str p.b, .int .i64 p.n, ks, ts]) ∧ ActAt H [.int .u8 p.act, .str p.a, .str p.b, .int .i64 p.n, ks, ts] p ∧
    ∃ o bq, q = .ptr (some (bq, o)) ∧ (∀ f, f < 6 → aload H none (.ptr (some (bq, o + f))) = ([.int .u8 p.act, .str p.a, .str p.b, .int .i64 p.n, ks, ts] : List AVal)[f]?) ∧ aload H (some 2) (.ptr (some (bq, o + 4))) = some (.agg [ks, ts]) := by
  obtain ⟨xs, h1, h2, h3⟩ := h.ex
  have hi : i < l.length := (List.getElem?_eq_some_iff.1 hp).1
  have hx : xs[i]? = some xs[i] := List.getElem?_eq_getElem (by omega)
  have ha := h3 i _ p hx hp
  obtain ⟨ks, ts, e, g⟩ := ha.ex
  rw [e] at hx ha
  obtain ⟨bq, o, cs, q1, q2, q3, q4, q5⟩ := h1.cut hx
  refine ⟨slot v (i * 6), ks, ts, h1.addr (by omega), h1.load hx, ha, o, bq, q1, fun f hf => ?_, ?_⟩
  · have := h1.loadf hx hf
    rw [q2] at this
    exact this
  · rw [aload_agg q3]
    unfold Ahs.cut
    rw [if_pos (by omega)]
    have : ((cs.drop (o + 4)).take 2) = (((cs.drop o).take 6).drop 4).take 2 := by
      rw [List.drop_take, List.drop_drop, List.take_take]; rfl
    rw [this, q5]
    rfl

def greatC (keep torn : List Int) : Bool := decide (60 < keep.length) || decide (60 < torn.length)

theorem greatC_c {n lim : Nat} {ks ts : AVal} {keep torn : List Int} (s1 : Sl H 1 ks (encI keep)) (s2 : Sl H 1 ts (encI torn)) (o1 : ks.one = true) (o2 : ts.one = true) :
    ∃ v H', Ahs.runT ap (n + 1) lim (.fn 37) [.agg [ks, ts]] H = some (v, H') ∧ v = .bool (greatC keep torn) ∧ Keeps2 H H' ∧ H.next < H'.next := by
  refine F37_run a37 ?_
  unfold F37 greatC
  have hb : (([ks, ts] : List AVal).all fun v => v.one) = true := by simp only [List.all_cons, List.all_nil, o1, o2, Bool.and_true]
  have l1 := s1.len
  have l2 := s2.len
  rw [encI_len] at l1 l2
  have lx : ∀ o, aload (H.push (.cells [ks, ts])) none (.ptr (some (H.next, o))) = ([ks, ts] : List AVal)[o]? := fun o => aload_new1 _ _ _
  have d1 : decide ((60 : Int) < (keep.length : Int)) = decide (60 < keep.length) := by rw [Bool.eq_iff_iff]; simp; omega
  have d2 : decide ((60 : Int) < (torn.length : Int)) = decide (60 < torn.length) := by rw [Bool.eq_iff_iff]; simp; omega
  by_cases h : 60 < keep.length
  · have e : decide (60 < keep.length) = true := dT h
    (repeat (first | (with_reducible apply bindP_intro; (focus (first | with_reducible rfl | (simp only [walkR, get0, getS, Nat.zero_add, Nat.add_zero, Bool.not_true, Bool.not_false, decide_true, decide_false, reduceIte, and_self, Bool.false_eq_true, hb, lx, l1, d1, e] <;> with_reducible rfl)))) | (with_reducible apply bind2_intro; (focus (first | with_reducible rfl | (simp only [walkR, get0, getS, Nat.zero_add, Nat.add_zero, Bool.not_true, Bool.not_false, decide_true, decide_false, reduceIte, and_self, Bool.false_eq_true, hb, lx, l1, d1, e] <;> with_reducible rfl)))) | with_reducible apply cond_t | with_reducible apply cond_f))
    exact ⟨by rw [e]; rfl, .push _ _, by rw [Heap.next_push]; omega⟩
  · have e : decide (60 < keep.length) = false := dF h
    (repeat (first | (with_reducible apply bindP_intro; (focus (first | with_reducible rfl | (simp only [walkR, get0, getS, Nat.zero_add, Nat.add_zero, Bool.not_true, Bool.not_false, decide_true, decide_false, reduceIte, and_self, Bool.false_eq_true, hb, lx, l1, l2, d1, e, d2] <;> with_reducible rfl)))) | (with_reducible apply bind2_intro; (focus (first | with_reducible rfl | (simp only [walkR, get0, getS, Nat.zero_add, Nat.add_zero, Bool.not_true, Bool.not_false, decide_true, decide_false, reduceIte, and_self, Bool.false_eq_true, hb, lx, l1, l2, d1, e, d2] <;> with_reducible rfl)))) | with_reducible apply cond_t | with_reducible apply cond_f))
    exact ⟨by rw [e]; rfl, .push _ _, by rw [Heap.next_push]; omega⟩

theorem great_loop {n lim N : Nat} {K : AVal → Heap → Prop} {v : AVal} {l : List PAct} {H0 : Heap} (h0 : ActsAt H0 v l) (hlen : l.length ≤ 100)
    (hK : ∀ t H', Keeps2 H0 H' → (t = false → (∀ p ∈ l, p.ok) ∧ (l ≠ [] → H0.next < H'.next)) → K (.bool t) H') :
    ∀ (j i : Nat) (s : Int) (H : Heap), Keeps2 H0 H → l.length < j + i → i ≤ l.length → (∀ (k : Nat) p, k < i → l[k]? = some p → p.ok) → (i ≠ 0 → H0.next < H.next) → F36_l0 (Ahs.runT ap (n + 1)) lim N K j v (.int .i64 s) (.int .i64 (i : Int)) H
  | 0, i, s, H, _, h, h', _, _ => by exfalso; omega
  | j + 1, i, s, H, k0, hj, hi, hok, hnx => by
    show F36_s0 _ _ _ _ (F36_l0 _ _ _ _ j) _ _ _ _
    unfold F36_s0
    have hA := h0.keepH k0
    by_cases hil : i < l.length
    · have hd : decide ((i : Int) < (l.length : Int)) = true := dT (by omega)
      have hp : l[i]? = some l[i] := List.getElem?_eq_getElem hil
      generalize l[i] = p at hp
      obtain ⟨q, ks, ts, e1, e2, e3, o, bq, rfl, e4, e5⟩ := h0.at' hp
      obtain ⟨ks', ts', ee, s1, s2, o1, o2⟩ := e3.ex
      simp only [List.cons.injEq, and_true, true_and] at ee
      obtain ⟨rfl, rfl⟩ := ee
      have l1 : aload H none (.ptr (some (bq, o + 1))) = some (.str p.a) := aload_keep k0 (e4 1 (by omega))
      have l2 : aload H none (.ptr (some (bq, o + 2))) = some (.str p.b) := aload_keep k0 (e4 2 (by omega))
      have e5 := aload_keep k0 e5
      have hi1 : IntKind.i64.wrap ((i : Int) + 1) = ((i + 1 : Nat) : Int) := i64_succ (by omega)
      obtain ⟨vg, H2, g1, rfl, g3, g4⟩ := greatC_c (n := n) (lim := lim) (s1.keep k0) (s2.keep k0) o1 o2
      have m1 := aload_keep g3 l1
      have m2 := aload_keep g3 l2
      by_cases ha : 20000 < p.a.length
      · have da : decide ((20000 : Int) < (p.a.length : Int)) = true := dT (by omega)
        (repeat (first | (with_reducible apply bindP_intro; (focus (first | with_reducible rfl | (simp only [walkR, get0, getS, Nat.zero_add, Nat.add_zero, Bool.not_true, Bool.not_false, decide_true, decide_false, reduceIte, and_self, Bool.false_eq_true, hA.alen, hd, e1, l1, da] <;> with_reducible rfl)))) | (with_reducible apply bind2_intro; (focus (first | with_reducible rfl | (simp only [walkR, get0, getS, Nat.zero_add, Nat.add_zero, Bool.not_true, Bool.not_false, decide_true, decide_false, reduceIte, and_self, Bool.false_eq_true, hA.alen, hd, e1, l1, da] <;> with_reducible rfl)))) | with_reducible apply cond_t | with_reducible apply cond_f))
        exact hK true H k0 (fun e => by simp at e)
      · have da : decide ((20000 : Int) < (p.a.length : Int)) = false := dF (by omega)
        by_cases hb : 20000 < p.b.length
        · have db : decide ((20000 : Int) < (p.b.length : Int)) = true := dT (by omega)
          (repeat (first | (with_reducible apply bindP_intro; (focus (first | with_reducible rfl | (simp only [walkR, get0, getS, Nat.zero_add, Nat.add_zero, Bool.not_true, Bool.not_false, decide_true, decide_false, reduceIte, and_self, Bool.false_eq_true, hA.alen, hd, e1, l1, da, l2, db] <;> with_reducible rfl)))) | (with_reducible apply bind2_intro; (focus (first | with_reducible rfl | (simp only [walkR, get0, getS, Nat.zero_add, Nat.add_zero, Bool.not_true, Bool.not_false, decide_true, decide_false, reduceIte, and_self, Bool.false_eq_true, hA.alen, hd, e1, l1, da, l2, db] <;> with_reducible rfl)))) | with_reducible apply cond_t | with_reducible apply cond_f))
          exact hK true H k0 (fun e => by simp at e)
        · have db : decide ((20000 : Int) < (p.b.length : Int)) = false := dF (by omega)
          cases hg : greatC p.keep p.torn with
          | true =>
            rw [hg] at g1
            (repeat (first | (with_reducible apply bindP_intro; (focus (first | with_reducible rfl | (simp only [walkR, get0, getS, Nat.zero_add, Nat.add_zero, Bool.not_true, Bool.not_false, decide_true, decide_false, reduceIte, and_self, Bool.false_eq_true, hA.alen, hd, e1, l1, da, l2, db, e5, g1] <;> with_reducible rfl)))) | (with_reducible apply bind2_intro; (focus (first | with_reducible rfl | (simp only [walkR, get0, getS, Nat.zero_add, Nat.add_zero, Bool.not_true, Bool.not_false, decide_true, decide_false, reduceIte, and_self, Bool.false_eq_true, hA.alen, hd, e1, l1, da, l2, db, e5, g1] <;> with_reducible rfl)))) | with_reducible apply cond_t | with_reducible apply cond_f))
            exact hK true H2 (k0.trans g3) (fun e => by simp at e)
          | false =>
            rw [hg] at g1
            (repeat (first | (with_reducible apply bindP_intro; (focus (first | with_reducible rfl | (simp only [walkR, get0, getS, Nat.zero_add, Nat.add_zero, Bool.not_true, Bool.not_false, decide_true, decide_false, reduceIte, and_self, Bool.false_eq_true, hA.alen, hd, e1, l1, da, l2, db, e5, g1, m1, m2, hi1] <;> with_reducible rfl)))) | (with_reducible apply bind2_intro; (focus (first | with_reducible rfl | (simp only [walkR, get0, getS, Nat.zero_add, Nat.add_zero, Bool.not_true, Bool.not_false, decide_true, decide_false, reduceIte, and_self, Bool.false_eq_true, hA.alen, hd, e1, l1, da, l2, db, e5, g1, m1, m2, hi1] <;> with_reducible rfl)))) | with_reducible apply cond_t | with_reducible apply cond_f))
            refine great_loop h0 hlen hK j (i + 1) _ H2 (k0.trans g3) (by omega) (by omega) ?_ (fun _ => by have := k0.next; omega)
            intro k p' hk hkp
            by_cases hki : k = i
            · subst hki
              rw [hp] at hkp
              simp only [Option.some.injEq] at hkp
              subst hkp
              unfold greatC at hg
              simp only [Bool.or_eq_false_iff, decide_eq_false_iff_not] at hg
              exact ⟨e3.n.2, e3.n.1, by omega, by omega, by omega, e3.keep, e3.torn⟩
            · exact hok k p' (by omega) hkp
    · have hd : decide ((i : Int) < (l.length : Int)) = false := dF (by omega)
      (repeat (first | (with_reducible apply bindP_intro; (focus (first | with_reducible rfl | (simp only [walkR, get0, getS, Nat.zero_add, Nat.add_zero, Bool.not_true, Bool.not_false, decide_true, decide_false, reduceIte, and_self, Bool.false_eq_true, hA.alen, hd] <;> with_reducible rfl)))) | (with_reducible apply bind2_intro; (focus (first | with_reducible rfl | (simp only [walkR, get0, getS, Nat.zero_add, Nat.add_zero, Bool.not_true, Bool.not_false, decide_true, decide_false, reduceIte, and_self, Bool.false_eq_true, hA.alen, hd] <;> with_reducible rfl)))) | with_reducible apply cond_t | with_reducible apply cond_f))
      unfold F36_j0
      (repeat (first | (with_reducible apply bindP_intro; (focus (first | with_reducible rfl | (simp only [walkR, get0, getS, Nat.zero_add, Nat.add_zero, Bool.not_true, Bool.not_false, decide_true, decide_false, reduceIte, and_self, Bool.false_eq_true] <;> with_reducible rfl)))) | (with_reducible apply bind2_intro; (focus (first | with_reducible rfl | (simp only [walkR, get0, getS, Nat.zero_add, Nat.add_zero, Bool.not_true, Bool.not_false, decide_true, decide_false, reduceIte, and_self, Bool.false_eq_true] <;> with_reducible rfl)))) | with_reducible apply cond_t | with_reducible apply cond_f))
      refine hK _ H k0 fun _ => ⟨fun p hp => ?_, fun hne => hnx (by intro e; subst e; exact hne (List.eq_nil_of_length_eq_zero (by omega)))⟩
      obtain ⟨k, hk, rfl⟩ := List.getElem_of_mem hp
      exact hok k _ (by omega) (List.getElem?_eq_getElem hk)

theorem great_c {n lim : Nat} {v : AVal} {l : List PAct} (h : ActsAt H v l) (hn : 101 ≤ n) :
    ∃ r H', Ahs.runT ap (n + 2) lim (.fn 36) [v] H = some (r, H') ∧ Keeps2 H H' ∧ ∃ t, r = .bool t ∧ (t = false → l.length ≤ 100 ∧ (∀ p ∈ l, p.ok) ∧ (l ≠ [] → H.next < H'.next)) := by
  refine F36_run a36 ?_
  unfold F36
  by_cases hl : 100 < l.length
  · have hd : decide ((100 : Int) < (l.length : Int)) = true := dT (by omega)
    (repeat (first | (with_reducible apply bindP_intro; (focus (first | with_reducible rfl | (simp only [walkR, get0, getS, Nat.zero_add, Nat.add_zero, Bool.not_true, Bool.not_false, decide_true, decide_false, reduceIte, and_self, Bool.false_eq_true, h.alen, hd] <;> with_reducible rfl)))) | (with_reducible apply bind2_intro; (focus (first | with_reducible rfl | (simp only [walkR, get0, getS, Nat.zero_add, Nat.add_zero, Bool.not_true, Bool.not_false, decide_true, decide_false, reduceIte, and_self, Bool.false_eq_true, h.alen, hd] <;> with_reducible rfl)))) | with_reducible apply cond_t | with_reducible apply cond_f))
    exact ⟨.refl _, true, rfl, fun e => by simp at e⟩
  · have hd : decide ((100 : Int) < (l.length : Int)) = false := dF (by omega)
    (repeat (first | (with_reducible apply bindP_intro; (focus (first | with_reducible rfl | (simp only [walkR, get0, getS, Nat.zero_add, Nat.add_zero, Bool.not_true, Bool.not_false, decide_true, decide_false, reduceIte, and_self, Bool.false_eq_true, h.alen, hd] <;> with_reducible rfl)))) | (with_reducible apply bind2_intro; (focus (first | with_reducible rfl | (simp only [walkR, get0, getS, Nat.zero_add, Nat.add_zero, Bool.not_true, Bool.not_false, decide_true, decide_false, reduceIte, and_self, Bool.false_eq_true, h.alen, hd] <;> with_reducible rfl)))) | with_reducible apply cond_t | with_reducible apply cond_f))
    exact great_loop (n := n) h (by omega) (fun t H' k hok => ⟨k, t, rfl, fun e => ⟨by omega, hok e⟩⟩) (n + 1) 0 0 H (.refl _) (by omega) (by omega) (fun k p hk _ => by omega) (fun e => absurd rfl e)

theorem does_c {n lim K : Nat} {H0 : Heap} {p : PAct} {x : List AVal} (h : DiskAt M H b m D) (hD : DskOK K D) (hK : K ≤ 100000000) (hMb : M b) (hMm : M m) (hlb : lim ≤ b) (hlm : lim ≤ m) (hM : ∀ c, M c → c < H.next) (hKn : K < n)
    (k0 : Keeps2 H0 H) (hb0 : H0.next ≤ b) (hm0 : H0.next ≤ m) (hx : ActAt H0 x p) (hp : p.ok) :
    ∃ v H', Ahs.runT ap (n + 6) lim (.fn 46) [ptr b, .agg x] H = some (v, H') ∧ v = .tup [.str (doesD D p).1.1, .int .i64 (doesD D p).1.2] ∧ DiskAt M H' b m (doesD D p).2 ∧ Fram (dft b m) H H' := by
  refine F46_run a46 ?_
  unfold F46 doesD
  have hlt := h.ltb
  have hltm := h.ltm
  obtain ⟨ks, ts, rfl, s1, s2, o1, o2⟩ := hx.ex
  have hb : (([.int .u8 p.act, .str p.a, .str p.b, .int .i64 p.n, ks, ts] : List AVal).all fun v => v.one) = true := by
    simp only [List.all_cons, List.all_nil, o1, o2, Bool.and_true]; rfl
  have kx : Keeps2 H (H.push (.cells [.int .u8 p.act, .str p.a, .str p.b, .int .i64 p.n, ks, ts])) := .push _ _
  have nx : (H.push (.cells [.int .u8 p.act, .str p.a, .str p.b, .int .i64 p.n, ks, ts])).next = H.next + 1 := Heap.next_push _ _
  have lx : ∀ o, aload (H.push (.cells [.int .u8 p.act, .str p.a, .str p.b, .int .i64 p.n, ks, ts])) none (.ptr (some (H.next, o))) = ([.int .u8 p.act, .str p.a, .str p.b, .int .i64 p.n, ks, ts] : List AVal)[o]? := fun o => aload_new1 _ _ _
  have l4 : aload (H.push (.cells [.int .u8 p.act, .str p.a, .str p.b, .int .i64 p.n, ks, ts])) (some 2) (.ptr (some (H.next, 4))) = some (.agg [ks, ts]) := by
    rw [aload_agg (cells_push_new H _)]; rfl
  have h1 := h.keep kx
  have q : ∀ k : Int, (p.act == k) = decide (p.act = k) := fun k => by rw [Bool.eq_iff_iff]; simp
  generalize hH1 : H.push (.cells [.int .u8 p.act, .str p.a, .str p.b, .int .i64 p.n, ks, ts]) = H1 at *
  have fx : Fram (dft b m) H H1 := .of kx
  by_cases c0 : p.act = 0
  · have e0 : decide (p.act = 0) = true := dT c0
    obtain ⟨v, H', r1, r2, r3, r4⟩ := append_c (n := n + 1) (lim := lim) h1 hD (by omega) hMb hMm hlb hlm (fun c hc e => by have := hM c e; omega) p.a p.b
    (repeat (first | (with_reducible apply bindP_intro; (focus (first | with_reducible rfl | (simp only [walkR, get0, getS, Nat.zero_add, Nat.add_zero, Bool.not_true, Bool.not_false, decide_true, decide_false, reduceIte, and_self, Bool.false_eq_true, hb, hH1, lx, q, e0, r1] <;> with_reducible rfl)))) | (with_reducible apply bind2_intro; (focus (first | with_reducible rfl | (simp only [walkR, get0, getS, Nat.zero_add, Nat.add_zero, Bool.not_true, Bool.not_false, decide_true, decide_false, reduceIte, and_self, Bool.false_eq_true, hb, hH1, lx, q, e0, r1] <;> with_reducible rfl)))) | with_reducible apply cond_t | with_reducible apply cond_f))
    simp only [c0, if_true]
    exact ⟨by rw [r2], r3, fx.trans r4 (fun c _ e => e)⟩
  have e0 : decide (p.act = 0) = false := dF c0
  simp only [c0, if_false]
  by_cases c1 : p.act = 1
  · have e1 : decide (p.act = 1) = true := dT c1
    obtain ⟨v, H', r1, r2, r3, r4⟩ := sync_c (n := n) (lim := lim) h1 hD hMb hMm hlb hlm p.a
    (repeat (first | (with_reducible apply bindP_intro; (focus (first | with_reducible rfl | (simp only [walkR, get0, getS, Nat.zero_add, Nat.add_zero, Bool.not_true, Bool.not_false, decide_true, decide_false, reduceIte, and_self, Bool.false_eq_true, hb, hH1, lx, q, e0, e1, r1] <;> with_reducible rfl)))) | (with_reducible apply bind2_intro; (focus (first | with_reducible rfl | (simp only [walkR, get0, getS, Nat.zero_add, Nat.add_zero, Bool.not_true, Bool.not_false, decide_true, decide_false, reduceIte, and_self, Bool.false_eq_true, hb, hH1, lx, q, e0, e1, r1] <;> with_reducible rfl)))) | with_reducible apply cond_t | with_reducible apply cond_f))
    simp only [c1, if_true]
    exact ⟨by rw [r2], r3, fx.trans r4 (fun c _ e => e)⟩
  have e1 : decide (p.act = 1) = false := dF c1
  simp only [c1, if_false]
  by_cases c2 : p.act = 2
  · have e2 : decide (p.act = 2) = true := dT c2
    obtain ⟨v, H', r1, r2, r3, r4⟩ := rename_c (n := n) (lim := lim) h1 hD hMb hMm hlb hlm p.a p.b
    (repeat (first | (with_reducible apply bindP_intro; (focus (first | with_reducible rfl | (simp only [walkR, get0, getS, Nat.zero_add, Nat.add_zero, Bool.not_true, Bool.not_false, decide_true, decide_false, reduceIte, and_self, Bool.false_eq_true, hb, hH1, lx, q, e0, e1, e2, r1] <;> with_reducible rfl)))) | (with_reducible apply bind2_intro; (focus (first | with_reducible rfl | (simp only [walkR, get0, getS, Nat.zero_add, Nat.add_zero, Bool.not_true, Bool.not_false, decide_true, decide_false, reduceIte, and_self, Bool.false_eq_true, hb, hH1, lx, q, e0, e1, e2, r1] <;> with_reducible rfl)))) | with_reducible apply cond_t | with_reducible apply cond_f))
    simp only [c2, if_true]
    exact ⟨by rw [r2], r3, fx.trans r4 (fun c _ e => e)⟩
  have e2 : decide (p.act = 2) = false := dF c2
  simp only [c2, if_false]
  by_cases c3 : p.act = 3
  · have e3 : decide (p.act = 3) = true := dT c3
    obtain ⟨v, H', r1, r2, r3, r4⟩ := delete_c (n := n) (lim := lim) h1 hD hMb hMm hlb hlm p.a
    (repeat (first | (with_reducible apply bindP_intro; (focus (first | with_reducible rfl | (simp only [walkR, get0, getS, Nat.zero_add, Nat.add_zero, Bool.not_true, Bool.not_false, decide_true, decide_false, reduceIte, and_self, Bool.false_eq_true, hb, hH1, lx, q, e0, e1, e2, e3, r1] <;> with_reducible rfl)))) | (with_reducible apply bind2_intro; (focus (first | with_reducible rfl | (simp only [walkR, get0, getS, Nat.zero_add, Nat.add_zero, Bool.not_true, Bool.not_false, decide_true, decide_false, reduceIte, and_self, Bool.false_eq_true, hb, hH1, lx, q, e0, e1, e2, e3, r1] <;> with_reducible rfl)))) | with_reducible apply cond_t | with_reducible apply cond_f))
    simp only [c3, if_true]
    exact ⟨by rw [r2], r3, fx.trans r4 (fun c _ e => e)⟩
  have e3 : decide (p.act = 3) = false := dF c3
  simp only [c3, if_false]
  by_cases c4 : p.act = 4
  · have e4 : decide (p.act = 4) = true := dT c4
    obtain ⟨v, H', r1, r2, r3⟩ := read_c (n := n + 1) (lim := lim) h1 hD (by omega) (by omega) p.a
    subst r2
    (repeat (first | (with_reducible apply bindP_intro; (focus (first | with_reducible rfl | (simp only [walkR, get0, getS, Nat.zero_add, Nat.add_zero, Bool.not_true, Bool.not_false, decide_true, decide_false, reduceIte, and_self, Bool.false_eq_true, hb, hH1, lx, q, e0, e1, e2, e3, e4, r1] <;> with_reducible rfl)))) | (with_reducible apply bind2_intro; (focus (first | with_reducible rfl | (simp only [walkR, get0, getS, Nat.zero_add, Nat.add_zero, Bool.not_true, Bool.not_false, decide_true, decide_false, reduceIte, and_self, Bool.false_eq_true, hb, hH1, lx, q, e0, e1, e2, e3, e4, r1] <;> with_reducible rfl)))) | with_reducible apply cond_t | with_reducible apply cond_f))
    simp only [c4, if_true]
    exact ⟨trivial, h1.keep r3, fx.trans (.of (S := dft b m) r3) (fun c _ e => e)⟩
  have e4 : decide (p.act = 4) = false := dF c4
  simp only [c4, if_false]
  by_cases c5 : p.act = 5
  · have e5 : decide (p.act = 5) = true := dT c5
    obtain ⟨v, H', r1, r2, r3⟩ := fuse_c (n := n + 3) (lim := lim) h1 hMb hlb p.n
    (repeat (first | (with_reducible apply bindP_intro; (focus (first | with_reducible rfl | (simp only [walkR, get0, getS, Nat.zero_add, Nat.add_zero, Bool.not_true, Bool.not_false, decide_true, decide_false, reduceIte, and_self, Bool.false_eq_true, hb, hH1, lx, q, e0, e1, e2, e3, e4, e5, r1] <;> with_reducible rfl)))) | (with_reducible apply bind2_intro; (focus (first | with_reducible rfl | (simp only [walkR, get0, getS, Nat.zero_add, Nat.add_zero, Bool.not_true, Bool.not_false, decide_true, decide_false, reduceIte, and_self, Bool.false_eq_true, hb, hH1, lx, q, e0, e1, e2, e3, e4, e5, r1] <;> with_reducible rfl)))) | with_reducible apply cond_t | with_reducible apply cond_f))
    unfold F46_j0
    simp only [c5, if_true]
    exact ⟨trivial, r2, fx.trans r3 (fun c _ e => e)⟩
  have e5 : decide (p.act = 5) = false := dF c5
  simp only [c5, if_false]
  by_cases c6 : p.act = 6
  · have e6 : decide (p.act = 6) = true := dT c6
    have hkp := hp.keep
    have htn := hp.torn
    obtain ⟨v, H', r1, r2, r3⟩ := crash_c (n := n + 2) (lim := lim) h1 hD (by omega) hMb hMm hlb hlm (by omega) s1 s2 hb0 hm0 (k0.trans kx) o1 o2 hx.keep hx.torn (by omega) (by omega)
    (repeat (first | (with_reducible apply bindP_intro; (focus (first | with_reducible rfl | (simp only [walkR, get0, getS, Nat.zero_add, Nat.add_zero, Bool.not_true, Bool.not_false, decide_true, decide_false, reduceIte, and_self, Bool.false_eq_true, hb, hH1, lx, q, e0, e1, e2, e3, e4, e5, e6, l4, r1] <;> with_reducible rfl)))) | (with_reducible apply bind2_intro; (focus (first | with_reducible rfl | (simp only [walkR, get0, getS, Nat.zero_add, Nat.add_zero, Bool.not_true, Bool.not_false, decide_true, decide_false, reduceIte, and_self, Bool.false_eq_true, hb, hH1, lx, q, e0, e1, e2, e3, e4, e5, e6, l4, r1] <;> with_reducible rfl)))) | with_reducible apply cond_t | with_reducible apply cond_f))
    unfold F46_j1 F46_j0
    simp only [c6, if_true]
    exact ⟨trivial, r2, fx.trans r3 (fun c _ e => e)⟩
  have e6 : decide (p.act = 6) = false := dF c6
  simp only [c6, if_false]
  by_cases c7 : p.act = 7
  · have e7 : decide (p.act = 7) = true := dT c7
    obtain ⟨v, H', r1, r2, r3⟩ := start_c (n := n + 3) (lim := lim) h1 hMb hlb
    (repeat (first | (with_reducible apply bindP_intro; (focus (first | with_reducible rfl | (simp only [walkR, get0, getS, Nat.zero_add, Nat.add_zero, Bool.not_true, Bool.not_false, decide_true, decide_false, reduceIte, and_self, Bool.false_eq_true, hb, hH1, lx, q, e0, e1, e2, e3, e4, e5, e6, e7, r1] <;> with_reducible rfl)))) | (with_reducible apply bind2_intro; (focus (first | with_reducible rfl | (simp only [walkR, get0, getS, Nat.zero_add, Nat.add_zero, Bool.not_true, Bool.not_false, decide_true, decide_false, reduceIte, and_self, Bool.false_eq_true, hb, hH1, lx, q, e0, e1, e2, e3, e4, e5, e6, e7, r1] <;> with_reducible rfl)))) | with_reducible apply cond_t | with_reducible apply cond_f))
    unfold F46_j2 F46_j1 F46_j0
    simp only [c7, if_true]
    exact ⟨trivial, r2, fx.trans r3 (fun c _ e => e)⟩
  have e7 : decide (p.act = 7) = false := dF c7
  simp only [c7, if_false]
  (repeat (first | (with_reducible apply bindP_intro; (focus (first | with_reducible rfl | (simp only [walkR, get0, getS, Nat.zero_add, Nat.add_zero, Bool.not_true, Bool.not_false, decide_true, decide_false, reduceIte, and_self, Bool.false_eq_true, hb, hH1, lx, q, e0, e1, e2, e3, e4, e5, e6, e7] <;> with_reducible rfl)))) | (with_reducible apply bind2_intro; (focus (first | with_reducible rfl | (simp only [walkR, get0, getS, Nat.zero_add, Nat.add_zero, Bool.not_true, Bool.not_false, decide_true, decide_false, reduceIte, and_self, Bool.false_eq_true, hb, hH1, lx, q, e0, e1, e2, e3, e4, e5, e6, e7] <;> with_reducible rfl)))) | with_reducible apply cond_t | with_reducible apply cond_f))
  unfold F46_j2 F46_j1 F46_j0
  exact ⟨rfl, h1, fx⟩

/-- What was played is there. -/
theorem plays_loop {n lim N : Nat} {K : AVal → Heap → Prop} {v : AVal} {l : List PAct} {H0 : Heap} (hMb : M b) (hMm : M m) (hlb : lim ≤ b) (hlm : lim ≤ m) (h0 : ActsAt H0 v l) (hb0 : H0.next ≤ b) (hm0 : H0.next ≤ m) (hok : ∀ p ∈ l, p.ok) (hlen : l.length ≤ 100) (hn : 50000000 ≤ n)
    {Hs : Heap} (hM : ∀ c, M c → c < Hs.next) (hK : ∀ D' H', DiskAt M H' b m D' → Fram (dft b m) Hs H' → D' = playsD D l → K (.tup []) H') :
    ∀ (j i : Nat) (H : Heap) (D1 : Dsk) (K1 : Nat), DiskAt M H b m D1 → DskOK K1 D1 → K1 + (l.length - i) * 20001 ≤ 50000000 → Keeps2 H0 H → Fram (dft b m) Hs H → l.length < j + i → i ≤ l.length → playsD D l = playsD D1 (l.drop i) →
      F40_l0 (Ahs.runT ap (n + 6)) lim N K j (ptr b) v (.int .i64 (i : Int)) H
  | 0, i, H, D1, K1, _, _, _, _, _, h, h', _ => by exfalso; omega
  | j + 1, i, H, D1, K1, hd1, hD1, hK1, k0, fr, hj, hi, hpl => by
    show F40_s0 _ _ _ _ (F40_l0 _ _ _ _ j) _ _ _ _
    unfold F40_s0
    have hA := h0.keepH k0
    by_cases hil : i < l.length
    · have hd : decide ((i : Int) < (l.length : Int)) = true := dT (by omega)
      have hp : l[i]? = some l[i] := List.getElem?_eq_getElem hil
      have hpo := hok l[i] (List.getElem_mem hil)
      have hdrop : playsD D1 (l.drop i) = playsD (doesD D1 l[i]).2 (l.drop (i + 1)) := by
        rw [List.drop_eq_getElem_cons hil]; rfl
      generalize l[i] = p at hp hpo hdrop
      obtain ⟨q, ks, ts, e1, e2, e3, _⟩ := h0.at' hp
      have e2 := aload_keep k0 e2
      have hi1 : IntKind.i64.wrap ((i : Int) + 1) = ((i + 1 : Nat) : Int) := i64_succ (by omega)
      have hfn := fr.next
      obtain ⟨r, H', r1, r2, r3, r4⟩ := does_c (n := n) (lim := lim) hd1 hD1 (by omega) hMb hMm hlb hlm (fun c e => by have := hM c e; omega) (by omega) k0 hb0 hm0 e3 hpo
      (repeat (first | (with_reducible apply bindP_intro; (focus (first | with_reducible rfl | (simp only [walkR, get0, getS, Nat.zero_add, Nat.add_zero, Bool.not_true, Bool.not_false, decide_true, decide_false, reduceIte, and_self, Bool.false_eq_true, hA.alen, hd, e1, e2, r1, hi1] <;> with_reducible rfl)))) | (with_reducible apply bind2_intro; (focus (first | with_reducible rfl | (simp only [walkR, get0, getS, Nat.zero_add, Nat.add_zero, Bool.not_true, Bool.not_false, decide_true, decide_false, reduceIte, and_self, Bool.false_eq_true, hA.alen, hd, e1, e2, r1, hi1] <;> with_reducible rfl)))) | with_reducible apply cond_t | with_reducible apply cond_f))
      refine plays_loop hMb hMm hlb hlm h0 hb0 hm0 hok hlen hn hM hK j (i + 1) H' _ (K1 + 20001) r3 (doesD_ok hD1 hpo) (by
        have : l.length - i = (l.length - (i + 1)) + 1 := by omega
        rw [this, Nat.succ_mul] at hK1
        omega) (Fram.keeps k0 r4 fun c hc e => by rcases e with e | e <;> omega) (fr.trans r4 fun c _ e => e) (by omega) (by omega) (by rw [hpl, hdrop])
    · have hd : decide ((i : Int) < (l.length : Int)) = false := dF (by omega)
      (repeat (first | (with_reducible apply bindP_intro; (focus (first | with_reducible rfl | (simp only [walkR, get0, getS, Nat.zero_add, Nat.add_zero, Bool.not_true, Bool.not_false, decide_true, decide_false, reduceIte, and_self, Bool.false_eq_true, hA.alen, hd] <;> with_reducible rfl)))) | (with_reducible apply bind2_intro; (focus (first | with_reducible rfl | (simp only [walkR, get0, getS, Nat.zero_add, Nat.add_zero, Bool.not_true, Bool.not_false, decide_true, decide_false, reduceIte, and_self, Bool.false_eq_true, hA.alen, hd] <;> with_reducible rfl)))) | with_reducible apply cond_t | with_reducible apply cond_f))
      unfold F40_j0
      refine hK D1 H hd1 fr ?_
      rw [hpl, List.drop_eq_nil_of_le (by omega)]; rfl

/-- A list of acts is played. -/
theorem plays_c {n lim K1 : Nat} {v : AVal} {l : List PAct} {H0 : Heap} (h : DiskAt M H b m D) (hD : DskOK K1 D) (hK1 : K1 ≤ 20000000) (hMb : M b) (hMm : M m) (hlb : lim ≤ b) (hlm : lim ≤ m) (hM : ∀ c, M c → c < H.next) (h0 : ActsAt H0 v l) (k0 : Keeps2 H0 H) (hb0 : H0.next ≤ b) (hm0 : H0.next ≤ m) (hok : ∀ p ∈ l, p.ok) (hlen : l.length ≤ 100) (hn : 50000000 ≤ n) :
    ∃ r H', Ahs.runT ap (n + 7) lim (.fn 40) [ptr b, v] H = some (r, H') ∧ DiskAt M H' b m (playsD D l) ∧ Fram (dft b m) H H' ∧ DskOK (K1 + 2000100) (playsD D l) := by
  refine F40_run a40 ?_
  unfold F40
  have hl : l.length * 20001 ≤ 2000100 := by omega
  refine plays_loop (n := n) (Hs := H) (D := D) hMb hMm hlb hlm h0 hb0 hm0 hok hlen hn hM ?_ (n + 6) 0 H D K1 h hD (by simp only [Nat.sub_zero]; omega) k0 (.refl _ _) (by omega) (Nat.zero_le _) (by simp)
  rintro D' H' d1 d2 rfl
  exact ⟨d1, d2, (playsD_ok hD hok).mono (by omega)⟩

end

/-! DiskTwin: a disk's twin answers as the disk does. -/

theorem decS_of : ∀ vs : List (Str × AVal), decS (encE strK vs) = some vs
  | [] => rfl
  | x :: xs => by
    show (decS (encE strK xs)).map ((x.1, x.2) :: ·) = _
    rw [decS_of xs]; rfl
theorem encR_flat : ∀ rs : List Str, (encR rs).flatten = rs.map .str
  | [] => rfl
  | r :: rs => by show AVal.str r :: (encR rs).flatten = _; rw [encR_flat rs]; rfl
theorem encR_str (rs : List Str) : (encR rs).flatten.all isStr = true := by
  rw [encR_flat, List.all_eq_true]
  intro x hx
  obtain ⟨r, _, rfl⟩ := List.mem_map.1 hx
  rfl

/-- A copy's block, and the copy. -/
theorem clone_fz {H : Heap} {s : AVal} {rs : List Str} (h : Fz H 1 s (encR rs)) (hk : rs.length * 16 ≤ room) :
    ∃ x, cblk H s = some x ∧ ∀ (H' : Heap) (j : Nat), (x = .dead ∨ H'.get j = some x) → Fz H' 1 (cval j s) (encR rs) ∧ ∀ c, slBlk (cval j s) = some c → c = j := by
  rcases h.at' with ⟨rfl, h2⟩ | ⟨b, o, c, cs, rfl, h2, h3, h4, h5⟩
  · refine ⟨.dead, rfl, fun H' j _ => ⟨?_, fun c hc => by simp [cval, slBlk] at hc⟩⟩
    rw [h2]; exact Fz.nil H' 1
  · by_cases h0 : (encR rs).length = 0
    · refine ⟨.cells [], ?_, fun H' j hj => ?_⟩
      · unfold cblk; simp only [h0, if_true]
      · have hv : cval j (.sl (some (b, o)) (encR rs).length c) = .sl (some (j, 0)) 0 (.ex 0) := by unfold cval; simp only [h0, if_true]
        rw [hv]
        have hn : encR rs = [] := List.eq_nil_of_length_eq_zero h0
        rcases hj with hj | hj
        · simp at hj
        · refine ⟨⟨h.each, .inr ⟨j, 0, .ex 0, [], by rw [hn]; rfl, by rw [hn]; exact Nat.le_refl _, Heap.cells_eq.2 hj, by rw [hn]; exact Nat.le_refl _, by rw [hn]; rfl⟩⟩, fun c hc => by simpa [slBlk] using hc.symm⟩
    · have hsrc : source H 1 (.sl (some (b, o)) (encR rs).length c) = some ((encR rs).length, (encR rs).flatten) := by
        unfold source
        simp only [h0, if_false, h3]
        unfold Ahs.cut
        rw [if_pos h4]
        simp only [Option.map_some, h5]
      refine ⟨.cells (encR rs).flatten, ?_, fun H' j hj => ?_⟩
      · unfold cblk
        simp only [h0, if_false, hsrc]
        rw [if_pos ⟨trivial, encR_str rs, by rw [encR_len]; exact hk⟩]
      · have hv : cval j (.sl (some (b, o)) (encR rs).length c) = .sl (some (j, 0)) (encR rs).length (.op 1 0) := by unfold cval; simp only [h0, if_false]
        rw [hv]
        have hl : (encR rs).flatten.length = (encR rs).length * 1 := by rw [encR_flat]; simp [encR_len]
        rcases hj with hj | hj
        · simp at hj
        · refine ⟨⟨h.each, .inr ⟨j, 0, .op 1 0, _, rfl, rfl, Heap.cells_eq.2 hj, by omega, by rw [List.drop_zero, List.take_of_length_le (by omega)]⟩⟩, fun c hc => by simpa [slBlk] using hc.symm⟩

section
variable {M : Nat → Prop} {H : Heap} {b m b2 m2 : Nat} {D : Dsk}

theorem fvals_mem {k : Str} {w : AVal} : ∀ {j : Nat} {vs : List (Str × AVal)}, (k, w) ∈ fvals j vs → ∃ i v, vs[i]? = some (k, v) ∧ w = fval (j + i) v := by
  intro j vs h
  obtain ⟨i, hi, he⟩ := List.getElem_of_mem h
  have hg : (fvals j vs)[i]? = some (k, w) := by rw [List.getElem?_eq_getElem hi, he]
  rw [fvals_get] at hg
  cases hv : vs[i]? with
  | none => rw [hv] at hg; simp at hg
  | some x =>
    rw [hv] at hg
    simp only [Option.map_some, Option.some.injEq, Prod.mk.injEq] at hg
    exact ⟨i, x.2, by rw [hv, ← hg.1], hg.2.symm⟩

theorem twin_c {n lim K1 : Nat} (h : DiskAt M H b m D) (hD : DskOK K1 D) (hK1 : K1 ≤ 1000000000) :
    ∃ H', Ahs.runT ap (n + 1) lim (.fn 56) [ptr b] H = some (ptr (H.next + 1), H') ∧ Keeps2 H H' ∧ H.next + 1 < H'.next ∧ ∀ M' : Nat → Prop, (∀ c, M' c → c < H.next + 2) → DiskAt M' H' (H.next + 1) H.next D := by
  obtain ⟨vs, clk, h1, h2, h3⟩ := h.map.ex
  have hn : (vs.map (·.1)).Nodup := h2.nodup_iff.2 h.map.nodup
  have hb : ∀ (k : Str) v, (k, v) ∈ vs → ∃ a, (k, a) ∈ D.fs ∧ FilAt M H v a := by
    intro k v hv
    have : k ∈ D.fs.map (·.1) := h2.mem_iff.1 (List.mem_map.2 ⟨_, hv, rfl⟩)
    obtain ⟨⟨k', a⟩, ha, rfl⟩ := List.mem_map.1 this
    exact ⟨a, ha, h3 _ v a hv ha⟩
  have hone : ∀ (k : Str) v a, (k, v) ∈ vs → (k, a) ∈ D.fs → ∃ x, fblk H v = some x ∧ ∀ (M' : Nat → Prop) (H' : Heap) (j : Nat), (∀ c, M' c → c < H.next + 2) → H.next + 2 ≤ j → (x = .dead ∨ H'.get j = some x) → FilAt M' H' (fval j v) a := by
    intro k v a hv ha
    obtain ⟨s, rfl, g2, g3⟩ := h3 k v a hv ha
    obtain ⟨x, hx, hq⟩ := clone_fz g2 (by have := (hD.files k a ha).many; unfold room; omega)
    refine ⟨x, hx, fun M' H' j hM hj hg => ?_⟩
    obtain ⟨q1, q2⟩ := hq H' j hg
    exact ⟨cval j s, rfl, q1, fun c hc e => by have := hM c e; have := q2 c hc; omega⟩
  have hf : (vs.all fun x => (fblk H x.2).isSome) = true := by
    rw [List.all_eq_true]
    rintro ⟨k, v⟩ hv
    obtain ⟨a, ha, _⟩ := hb k v hv
    obtain ⟨x, hx, _⟩ := hone k v a hv ha
    simp only [hx, Option.isSome_some]
  refine ⟨pushAll (twinBs H D.off (D.fuse : Int) vs) H, ?_, ?_, ?_, fun M' hM => ?_⟩
  · rw [q56]
    unfold gTwin
    simp only [h.cells, h1, decS_of]
    rw [if_pos ⟨hn, hf⟩]
  · have : ∀ (l : List Blk) (H : Heap), Keeps2 H (pushAll l H) := by
      intro l
      induction l with
      | nil => exact fun H => .refl _
      | cons x l ih => exact fun H => (Keeps2.push H x).trans (ih _)
    exact this _ _
  · rw [pushAll_next]; unfold twinBs; simp
  · have get : ∀ i, i < (twinBs H D.off (D.fuse : Int) vs).length → (pushAll (twinBs H D.off (D.fuse : Int) vs) H).get (H.next + i) = (twinBs H D.off (D.fuse : Int) vs)[i]? := fun i hi => pushAll_new _ H i hi
    refine ⟨Heap.cells_eq.2 ?_, ⟨⟨fvals (H.next + 2) vs, ⟨vs.length, []⟩, ?_, ?_, ?_⟩, h.map.nodup⟩⟩
    · rw [get 1 (by unfold twinBs; simp)]; rfl
    · have := get 0 (by unfold twinBs; simp)
      rw [Nat.add_zero] at this
      rw [this]; rfl
    · rw [fvals_keys]; exact h2
    · intro k w a hw ha
      obtain ⟨i, v, hi, rfl⟩ := fvals_mem hw
      obtain ⟨x, hx, hq⟩ := hone k v a (List.mem_of_getElem? hi) ha
      have hil := (List.getElem?_eq_some_iff.1 hi).1
      refine hq M' _ _ hM (by omega) (.inr ?_)
      rw [show H.next + 2 + i = H.next + (i + 2) by omega, get (i + 2) (by unfold twinBs; simp; omega)]
      unfold twinBs
      rw [List.getElem?_cons_succ, List.getElem?_cons_succ, List.getElem?_append_left (by simpa using hil), List.getElem?_map, hi]
      simp only [Option.map_some, hx, Option.getD_some]

/-- The names are gone through, and what is told of each. -/
theorem same_loop {n lim N K1 : Nat} {v1 v2 : AVal} {ns : List Str} {K : AVal → Heap → Prop} (hns : ns.length < 1000000000) (hD : DskOK K1 D) (hK1 : K1 ≤ 1000000000)
    {Hs : Heap} (hlim : lim ≤ Hs.next) (hT1 : DiskAt M Hs b m D) (hT2 : DiskAt M Hs b2 m2 D) (s1 : Sl Hs 1 v1 (encR ns)) (s2 : Sl Hs 1 v2 (encR ns)) (hK : ∀ H', Keeps2 Hs H' → K (.bool true) H') :
    ∀ (j i : Nat) (H : Heap), Keeps2 Hs H → ns.length < j + i → i ≤ ns.length → F57_l0 (Ahs.runT ap (n + 4)) lim N K j (ptr b) (ptr b2) v1 v2 (.int .i64 (i : Int)) H
  | 0, i, H, _, h, h' => by exfalso; omega
  | j + 1, i, H, k0, hj, hi => by
    show F57_s0 _ _ _ _ (F57_l0 _ _ _ _ j) _ _ _ _ _ _
    unfold F57_s0
    have hl1 : alen false v1 = some (.int .i64 (ns.length : Int)) := by rw [s1.len, encR_len]
    by_cases hil : i < ns.length
    · have hd : decide ((i : Int) < (ns.length : Int)) = true := dT (by omega)
      have hx : ns[i]? = some ns[i] := List.getElem?_eq_getElem hil
      generalize ns[i] = x at hx
      obtain ⟨p1, p2, p3⟩ := sl_at s1 (encR_get hx)
      obtain ⟨q1, q2, q3⟩ := sl_at s2 (encR_get hx)
      have k0n := k0.next
      obtain ⟨r1, H1, e1, rfl, e3⟩ := records_c (n := n + 2) (lim := lim) (hT1.keep k0) (by omega) x
      have k1 := k0.trans e3
      have k1n := k1.next
      obtain ⟨r2, H2, f1, rfl, f3⟩ := records_c (n := n + 2) (lim := lim) (hT2.keep k1) (by omega) x
      have k2 := k1.trans f3
      have k2n := k2.next
      obtain ⟨r3, H3, g1, rfl, g3⟩ := read_c (n := n) (lim := lim) (hT1.keep k2) hD (by omega) (by omega) x
      have k3 := k2.trans g3
      have k3n := k3.next
      obtain ⟨r4, H4, i1, rfl, i3⟩ := read_c (n := n) (lim := lim) (hT2.keep k3) hD (by omega) (by omega) x
      have k4 := k3.trans i3
      have hi1 : IntKind.i64.wrap ((i : Int) + 1) = ((i + 1 : Nat) : Int) := i64_succ (by omega)
      have hxx : (!(x == x)) = false := by simp
      have hn1 : ((((recsD D x).1 : Nat) : Int) != (((recsD D x).1 : Nat) : Int)) = false := by simp
      have hn2 : ((((recsD D x).2 : Nat) : Int) != (((recsD D x).2 : Nat) : Int)) = false := by simp
      have hr1 : (!((readD D x).1 == (readD D x).1)) = false := by simp
      have hr2 : ((readD D x).2 != (readD D x).2) = false := by simp
      (repeat (first | (with_reducible apply bindP_intro; (focus (first | with_reducible rfl | (simp only [walkR, get0, getS, Nat.zero_add, Nat.add_zero, Bool.not_true, Bool.not_false, decide_true, decide_false, reduceIte, and_self, Bool.false_eq_true, hl1, hd, p2, aload_keep k0 p3, e1, q2, aload_keep k1 q3, f1, aload_keep k2 p3, g1, aload_keep k3 q3, i1, aload_keep k4 p3, aload_keep k4 q3, hxx, hn1, hn2, hr1, hr2, hi1] <;> with_reducible rfl)))) | (with_reducible apply bind2_intro; (focus (first | with_reducible rfl | (simp only [walkR, get0, getS, Nat.zero_add, Nat.add_zero, Bool.not_true, Bool.not_false, decide_true, decide_false, reduceIte, and_self, Bool.false_eq_true, hl1, hd, p2, aload_keep k0 p3, e1, q2, aload_keep k1 q3, f1, aload_keep k2 p3, g1, aload_keep k3 q3, i1, aload_keep k4 p3, aload_keep k4 q3, hxx, hn1, hn2, hr1, hr2, hi1] <;> with_reducible rfl)))) | with_reducible apply cond_t | with_reducible apply cond_f))
      exact same_loop hns hD hK1 hlim hT1 hT2 s1 s2 hK j (i + 1) H4 k4 (by omega) (by omega)
    · have hd : decide ((i : Int) < (ns.length : Int)) = false := dF (by omega)
      (repeat (first | (with_reducible apply bindP_intro; (focus (first | with_reducible rfl | (simp only [walkR, get0, getS, Nat.zero_add, Nat.add_zero, Bool.not_true, Bool.not_false, decide_true, decide_false, reduceIte, and_self, Bool.false_eq_true, hl1, hd] <;> with_reducible rfl)))) | (with_reducible apply bind2_intro; (focus (first | with_reducible rfl | (simp only [walkR, get0, getS, Nat.zero_add, Nat.add_zero, Bool.not_true, Bool.not_false, decide_true, decide_false, reduceIte, and_self, Bool.false_eq_true, hl1, hd] <;> with_reducible rfl)))) | with_reducible apply cond_t | with_reducible apply cond_f))
      unfold F57_j0
      exact hK H k0

theorem same_c {n lim K1 : Nat} (hT1 : DiskAt M H b m D) (hT2 : DiskAt M H b2 m2 D) (hlim : lim ≤ H.next) (hD : DskOK K1 D) (hK1 : K1 ≤ 100000000) (hn : 100000000 ≤ n) :
    ∃ v H', Ahs.runT ap (n + 5) lim (.fn 57) [ptr b, ptr b2] H = some (v, H') ∧ v = .bool true ∧ Keeps2 H H' := by
  refine F57_run a57 ?_
  unfold F57
  obtain ⟨v1, H1, e1, e2, e3, e4⟩ := list_c (n := n + 3) (lim := lim) hT1 hD (by omega)
  obtain ⟨v2, H2, f1, f2, f3, f4⟩ := list_c (n := n + 3) (lim := lim) (hT2.keep e3) hD (by omega)
  have hl1 : alen false v1 = some (.int .i64 ((D.fs.map (·.1)).length : Nat)) := by rw [e2.len, encR_len]
  have hl2 : alen false v2 = some (.int .i64 ((D.fs.map (·.1)).length : Nat)) := by rw [f2.len, encR_len]
  have k2 := e3.trans f3
  have hn' : (((D.fs.map (·.1)).length : Int) != ((D.fs.map (·.1)).length : Int)) = false := by simp
  have d1 := down_c (n := n + 2) (lim := lim) (hT1.keep k2)
  have d2 := down_c (n := n + 2) (lim := lim) (hT2.keep k2)
  have u1 := fused_c (n := n + 2) (lim := lim) (hT1.keep k2)
  have u2 := fused_c (n := n + 2) (lim := lim) (hT2.keep k2)
  have ho : eqvO true .bool (.bool D.off) (.bool D.off) = some (.bool false) := by rw [eqvO_bool]; simp
  have hf : ((D.fuse : Int) != (D.fuse : Int)) = false := by simp
  have hlen := hD.len
  have hk2 := k2.next
  (repeat (first | (with_reducible apply bindP_intro; (focus (first | with_reducible rfl | (simp only [walkR, get0, getS, Nat.zero_add, Nat.add_zero, Bool.not_true, Bool.not_false, decide_true, decide_false, reduceIte, and_self, Bool.false_eq_true, e1, f1, hl1, hl2, hn', d1, d2, ho, u1, u2, hf] <;> with_reducible rfl)))) | (with_reducible apply bind2_intro; (focus (first | with_reducible rfl | (simp only [walkR, get0, getS, Nat.zero_add, Nat.add_zero, Bool.not_true, Bool.not_false, decide_true, decide_false, reduceIte, and_self, Bool.false_eq_true, e1, f1, hl1, hl2, hn', d1, d2, ho, u1, u2, hf] <;> with_reducible rfl)))) | with_reducible apply cond_t | with_reducible apply cond_f))
  refine same_loop (n := n) (ns := D.fs.map (·.1)) (by simp; omega) hD (by omega) (by omega) (hT1.keep k2) (hT2.keep k2) (e2.keep f3) f2 (fun H' k => ⟨rfl, k2.trans k⟩) (n + 4) 0 H2 (.refl _) (by simp; omega) (Nat.zero_le _)

theorem dtwin {n : Nat} {a0 a1 : AVal} {l1 l2 : List PAct} (hA0 : ActsAt H a0 l1) (hA1 : ActsAt H a1 l2) (hn : 100000000 ≤ n) :
    ∃ v H', Ahs.runT ap (n + 8) H.next (.fn 14) [a0, a1] H = some (v, H') ∧ v = .bool true := by
  refine F14_run a14 ?_
  unfold F14
  obtain ⟨_, H1, g1, k1, t1, rfl, ok1⟩ := great_c (n := n + 5) (lim := H.next) hA0 (by omega)
  obtain ⟨_, H2, g2, k2, t2, rfl, ok2⟩ := great_c (n := n + 5) (lim := H.next) (hA1.keepH k1) (by omega)
  have k02 : Keeps2 H H2 := k1.trans k2
  have haw : ∀ G, Ahs.runT ap (n + 7) H.next (.fn 38) [] G = some (.bool true, G) := fun G => b38
  cases t1 with
  | true =>
    (repeat (first | (with_reducible apply bindP_intro; (focus (first | with_reducible rfl | (simp only [walkR, get0, getS, Nat.zero_add, Nat.add_zero, Bool.not_true, Bool.not_false, decide_true, decide_false, reduceIte, and_self, Bool.false_eq_true, g1, haw] <;> with_reducible rfl)))) | (with_reducible apply bind2_intro; (focus (first | with_reducible rfl | (simp only [walkR, get0, getS, Nat.zero_add, Nat.add_zero, Bool.not_true, Bool.not_false, decide_true, decide_false, reduceIte, and_self, Bool.false_eq_true, g1, haw] <;> with_reducible rfl)))) | with_reducible apply cond_t | with_reducible apply cond_f))
    exact rfl
  | false =>
    obtain ⟨len1, ok1, _⟩ := ok1 rfl
    cases t2 with
    | true =>
      (repeat (first | (with_reducible apply bindP_intro; (focus (first | with_reducible rfl | (simp only [walkR, get0, getS, Nat.zero_add, Nat.add_zero, Bool.not_true, Bool.not_false, decide_true, decide_false, reduceIte, and_self, Bool.false_eq_true, g1, g2, haw] <;> with_reducible rfl)))) | (with_reducible apply bind2_intro; (focus (first | with_reducible rfl | (simp only [walkR, get0, getS, Nat.zero_add, Nat.add_zero, Bool.not_true, Bool.not_false, decide_true, decide_false, reduceIte, and_self, Bool.false_eq_true, g1, g2, haw] <;> with_reducible rfl)))) | with_reducible apply cond_t | with_reducible apply cond_f))
      exact rfl
    | false =>
      obtain ⟨len2, ok2, _⟩ := ok2 rfl
      have k2n := k02.next
      obtain ⟨b, m, H3, n1, n2, n3, n4, n5, n6, n7⟩ := new_c (M := fun _ => False) (n := n + 6) (lim := H.next) (H := H2) k2n
      have n3n := n3.next
      have n2 : DiskAt (fun c => c = b ∨ c = m) H3 b m newD := ⟨n2.cells, n2.map.mono rfl fun _ _ _ h => by simp [newD] at h⟩
      obtain ⟨rp, H4, p1, p2, p3, p4⟩ := plays_c (n := n) (lim := H.next) (M := fun c => c = b ∨ c = m) n2 newD_ok (by omega) (.inl rfl) (.inr rfl) (by omega) (by omega) (fun c e => by rcases e with rfl | rfl <;> assumption) hA0 (k02.trans n3) (by omega) (by omega) ok1 len1 (by omega)
      have p3n := p3.next
      have k04 : Keeps2 H H4 := Fram.keeps (k02.trans n3) p3 fun c hc e => by rcases e with e | e <;> omega
      generalize playsD newD l1 = D1 at *
      obtain ⟨H5, w1, w2, w3, w4⟩ := twin_c (n := n + 6) (lim := H.next) p2 p4 (by omega)
      have w2n := w2.next
      obtain ⟨bt, hbt⟩ : ∃ bt, bt = H4.next + 1 := ⟨_, rfl⟩
      obtain ⟨mt, hmt⟩ : ∃ mt, mt = H4.next := ⟨_, rfl⟩
      obtain ⟨bu, hbu⟩ : ∃ bu, bu = H5.next + 1 := ⟨_, rfl⟩
      obtain ⟨mu, hmu⟩ : ∃ mu, mu = H5.next := ⟨_, rfl⟩
      rw [← hbt] at w1
      obtain ⟨H6, x1, x2, x3, x4⟩ := twin_c (n := n + 6) (lim := H.next) (p2.keep w2) p4 (by omega)
      rw [← hbu] at x1
      have x2n := x2.next
      have hd6 : DiskAt (fun c => c = b ∨ c = m ∨ c = bt ∨ c = mt ∨ c = bu ∨ c = mu) H6 b m D1 := ((p2.more (M' := fun c => c = b ∨ c = m ∨ c = bt ∨ c = mt ∨ c = bu ∨ c = mu) (fun c hc e => by omega)).keep w2).keep x2
      have ht5 := w4 (fun c => c = b ∨ c = m ∨ c = bt ∨ c = mt) (fun c e => by omega)
      rw [← hbt, ← hmt] at ht5
      have ht6 : DiskAt (fun c => c = b ∨ c = m ∨ c = bt ∨ c = mt ∨ c = bu ∨ c = mu) H6 bt mt D1 := (ht5.more (M' := fun c => c = b ∨ c = m ∨ c = bt ∨ c = mt ∨ c = bu ∨ c = mu) (fun c hc e => by omega)).keep x2
      have hu6 := x4 (fun c => c = b ∨ c = m ∨ c = bt ∨ c = mt ∨ c = bu ∨ c = mu) (fun c e => by omega)
      rw [← hbu, ← hmu] at hu6
      have hMin : ∀ c, dft bt mt c → (fun c => c = b ∨ c = m ∨ c = bt ∨ c = mt ∨ c = bu ∨ c = mu) c := fun c e => by rcases e with e | e <;> omega
      have hMin2 : ∀ c, dft b m c → (fun c => c = b ∨ c = m ∨ c = bt ∨ c = mt ∨ c = bu ∨ c = mu) c := fun c e => by rcases e with e | e <;> omega
      have k06 := (k04.trans w2).trans x2
      obtain ⟨rt, H7, y1, y2, y3, y4⟩ := plays_c (n := n) (lim := H.next) ht6 p4 (by omega) (by omega) (by omega) (by omega) (by omega) (fun c e => by omega) hA1 k06 (by omega) (by omega) ok2 len2 (by omega)
      have y3n := y3.next
      have hd7 := hd6.frame y3 (fun e => by rcases e with e | e <;> omega) (fun e => by rcases e with e | e <;> omega) hMin
      have hu7 := hu6.frame y3 (fun e => by rcases e with e | e <;> omega) (fun e => by rcases e with e | e <;> omega) hMin
      have k07 : Keeps2 H H7 := Fram.keeps k06 y3 fun c hc e => by rcases e with e | e <;> omega
      obtain ⟨_, H8, s1, rfl, s3⟩ := same_c (n := n + 2) (lim := H.next) hd7 hu7 (by omega) p4 (by omega) (by omega)
      have s3n := s3.next
      obtain ⟨rd, H9, z1, z2, z3, z4⟩ := plays_c (n := n) (lim := H.next) (hd7.keep s3) p4 (by omega) (by omega) (by omega) (by omega) (by omega) (fun c e => by omega) hA1 (k07.trans s3) (by omega) (by omega) ok2 len2 (by omega)
      have z3n := z3.next
      have ht9 := (y2.keep s3).frame z3 (fun e => by rcases e with e | e <;> omega) (fun e => by rcases e with e | e <;> omega) hMin2
      obtain ⟨_, H10, o1, rfl, o3⟩ := same_c (n := n + 2) (lim := H.next) z2 ht9 (by omega) z4 (by omega) (by omega)
      (repeat (first | (with_reducible apply bindP_intro; (focus (first | with_reducible rfl | (simp only [walkR, get0, getS, Nat.zero_add, Nat.add_zero, Bool.not_true, Bool.not_false, decide_true, decide_false, reduceIte, and_self, Bool.false_eq_true, g1, g2, n1, p1, w1, x1, y1, s1, z1, o1, haw] <;> with_reducible rfl)))) | (with_reducible apply bind2_intro; (focus (first | with_reducible rfl | (simp only [walkR, get0, getS, Nat.zero_add, Nat.add_zero, Bool.not_true, Bool.not_false, decide_true, decide_false, reduceIte, and_self, Bool.false_eq_true, g1, g2, n1, p1, w1, x1, y1, s1, z1, o1, haw] <;> with_reducible rfl)))) | with_reducible apply cond_t | with_reducible apply cond_f))
      exact rfl

theorem dtwin_walk (H : Heap) (vs : List AVal) (h : WfArgs H [(false, .slice actTy .nil), (false, .slice actTy .nil)] vs) : ∃ n, isTrue (run ap n H.next 14 vs H) = true := by
  obtain ⟨a0, _, rfl, h0, a1, _, rfl, h1, rfl⟩ := h
  simp only [Bool.false_eq_true, if_false] at h0 h1
  obtain ⟨l0, A0⟩ := wf_acts h0
  obtain ⟨l1, A1⟩ := wf_acts h1
  exact ⟨_, isTrue_run (dtwin (n := 100000000) A0 A1 (Nat.le_refl _))⟩

end

/-! DiskBegins: behind a crash each file begins as it did, and what is appended stands at its end. -/

theorem recs_at {D : Dsk} {x : Str} {f : Fil} (h : lk D.fs x = some f) : recsD D x = (f.recs.length, f.syn) := by unfold recsD; rw [h]; rfl
theorem read_at {D : Dsk} {x : Str} {f : Fil} (ho : D.off = false) (h : lk D.fs x = some f) : readD D x = (bytesF f, 0) := by unfold readD; rw [if_neg (by rw [ho]; simp), h]

theorem beg_step {K1 K : Nat} {D1 D : Dsk} {x : Str} {f g : Fil} {keep torn : List Int} {j : Nat} (h1 : DskOK K1 D1) (o1 : D1.off = false) (hD : DskOK K D) (ho : D.off = false) (hf : D.fuse = 0) (hx : lk D1.fs x = some f) (hg : lk D.fs x = some g) (hgf : g = if f.syn < f.recs.length then leftF f keep torn j else f) :
    bytesF g <+: bytesF f ∧ g.recs.length ≤ f.recs.length ∧ g.syn = g.recs.length ∧ (g.recs.length < f.recs.length → bytesF g ≠ bytesF f) ∧
    (((appendD D x [120]).1 = 9 ∧ readD (appendD D x [120]).2 x = (bytesF g, 0)) ∨ ((appendD D x [120]).1 = 0 ∧ readD (appendD D x [120]).2 x = (bytesF g ++ [120], 0))) ∧ (appendD D x [120]).2.off = false ∧ (appendD D x [120]).2.fuse = 0 ∧ ∀ y, y ≠ x → lk (appendD D x [120]).2.fs y = lk D.fs y := by
  obtain ⟨q1, q2, q3, q4, q5⟩ := begins_file (h1.files x f (lk_mem hx)) hgf
  refine ⟨q1, q2, q3, q4, ?_⟩
  have hr : rightN x = true := hD.names x (mem_keys.2 ⟨g, lk_mem hg⟩)
  have hb : burn D = D := by unfold burn; rw [if_pos hf]
  unfold appendD
  rw [if_neg (by rw [ho]; simp), if_neg (by rw [hr]; simp), hg]
  simp only [Option.getD_some]
  cases hc : g.cut with
  | true =>
    rw [if_pos rfl]
    exact ⟨.inl ⟨rfl, read_at ho hg⟩, ho, hf, fun _ _ => rfl⟩
  | false =>
    rw [if_neg (by simp)]
    unfold operD
    rw [hb, if_neg (by rw [ho]; simp)]
    refine ⟨.inr ⟨rfl, ?_⟩, ho, hf, fun y hy => ?_⟩
    · have e : lk (ins x (⟨g.recs ++ [[120]], g.syn, false, g.torn⟩ : Fil) D.fs) x = some ⟨g.recs ++ [[120]], g.syn, false, g.torn⟩ := by rw [lk_ins hD.asc, if_pos rfl]
      refine (read_at (D := { D with fs := ins x (⟨g.recs ++ [[120]], g.syn, false, g.torn⟩ : Fil) D.fs }) ho e).trans ?_
      unfold bytesF
      rw [q5 hc]
      simp
    · show lk (ins _ _ _) _ = _
      rw [lk_ins hD.asc, if_neg hy]

section
variable {M : Nat → Prop} {H : Heap} {b m bt mt : Nat}

set_option maxHeartbeats 2000000 in
theorem beg_loop {n lim N K1 : Nat} {K : AVal → Heap → Prop} {vn : AVal} {ns : List Str} {D1 Dc : Dsk} {keep torn : List Int} (hMb : M b) (hMm : M m) (hne : ¬ dft b m bt ∧ ¬ dft b m mt) (hlb : lim ≤ b) (hlm : lim ≤ m) (h1 : DskOK K1 D1) (hK1 : K1 ≤ 10000000) (o1 : D1.off = false) (hns : ns = D1.fs.map (·.1))
    (hcr : ∀ x, ∃ j, lk Dc.fs x = (lk D1.fs x).map fun f => if f.syn < f.recs.length then leftF f keep torn j else f) (hvn : ∀ c, slBlk vn = some c → ¬ dft b m c) (hK : ∀ H', K (.bool true) H') :
    ∀ (j i : Nat) (H : Heap) (D : Dsk) (K2 : Nat), DiskAt M H b m D → DiskAt M H bt mt D1 → Sl H 1 vn (encR ns) → DskOK K2 D → K2 + 2 * (ns.length - i) ≤ 50000000 → D.off = false → D.fuse = 0 → (∀ x ∈ ns.drop i, lk D.fs x = lk Dc.fs x) → (∀ c, M c → c < H.next) → lim ≤ H.next → ns.length < j + i → i ≤ ns.length →
      F12_l0 (Ahs.runT ap (n + 4)) lim N K j (ptr b) (ptr bt) vn (.int .i64 (i : Int)) H
  | 0, i, H, D, K2, _, _, _, _, _, _, _, _, _, _, h, h' => by exfalso; omega
  | j + 1, i, H, D, K2, hd, ht, s1, hD, hK2, ho, hf, hlk, hM, hlim, hj, hi => by
    show F12_s0 _ _ _ _ (F12_l0 _ _ _ _ j) _ _ _ _ _
    unfold F12_s0
    have hl1 : alen false vn = some (.int .i64 (ns.length : Int)) := by rw [s1.len, encR_len]
    have hlen := h1.len
    have hnl : ns.length = D1.fs.length := by rw [hns]; simp
    by_cases hil : i < ns.length
    · have hdd : decide ((i : Int) < (ns.length : Int)) = true := dT (by omega)
      have hx : ns[i]? = some ns[i] := List.getElem?_eq_getElem hil
      have hdrop : ns.drop i = ns[i] :: ns.drop (i + 1) := List.drop_eq_getElem_cons hil
      have hnd : (ns.drop i).Nodup := List.Pairwise.sublist (List.drop_sublist _ _) (by rw [hns]; exact h1.asc.nodup)
      have hmem : ns[i] ∈ D1.fs.map (·.1) := by rw [← hns]; exact List.getElem_mem hil
      generalize ns[i] = x at hx hdrop hmem
      rw [hdrop] at hlk hnd
      rw [List.nodup_cons] at hnd
      obtain ⟨f, hf1⟩ := mem_keys.1 hmem
      have hf1 := lk_of_mem h1.asc.nodup hf1
      obtain ⟨jj, hjj⟩ := hcr x
      rw [hf1] at hjj
      have hg1 : lk D.fs x = some (if f.syn < f.recs.length then leftF f keep torn jj else f) := by rw [hlk x (by simp), hjj]; rfl
      obtain ⟨g, hg⟩ : ∃ g, g = if f.syn < f.recs.length then leftF f keep torn jj else f := ⟨_, rfl⟩
      rw [← hg] at hg1
      obtain ⟨b1, b2, b3, b4, b5, b6, b7, b8⟩ := beg_step h1 o1 hD ho hf hf1 hg1 hg
      have hD2 := appendD_ok hD x [120]
      obtain ⟨p1, p2, p3⟩ := sl_at s1 (encR_get hx)
      obtain ⟨_, H1, r1, rfl, k1⟩ := read_c (n := n) (lim := lim) ht h1 (by omega) hlim x
      have k1n := k1.next
      obtain ⟨_, H2, r2, rfl, k2⟩ := read_c (n := n) (lim := lim) (hd.keep k1) hD (by omega) (by omega) x
      have k02 := k1.trans k2
      have k2n := k02.next
      obtain ⟨_, H3, r3, rfl, k3⟩ := records_c (n := n + 2) (lim := lim) (ht.keep k02) (by omega) x
      have k03 := k02.trans k3
      have k3n := k03.next
      obtain ⟨_, H4, r4, rfl, k4⟩ := records_c (n := n + 2) (lim := lim) (hd.keep k03) (by omega) x
      have k04 := k03.trans k4
      have k4n := k04.next
      obtain ⟨_, H5, r5, ⟨rfl, hd5, fr5⟩⟩ := append_c (n := n) (lim := lim) (hd.keep k04) hD (by omega) hMb hMm hlb hlm (fun c hc e => by have := hM c e; omega) x [120]
      have k5n := fr5.next
      obtain ⟨_, H6, r6, rfl, k6⟩ := read_c (n := n) (lim := lim) hd5 hD2 (by simp; omega) (by omega) x
      have k6n := k6.next
      have s5 : Sl H5 1 vn (encR ns) := Sl.frame fr5 (s1.keep k04) hvn
      obtain ⟨p1', p2', p3'⟩ := sl_at s5 (encR_get hx)
      have hpp : p1 = p1' := by simpa using p2.symm.trans p2'
      rw [← hpp] at p3'
      have ht6 := ((ht.keep k04).frame fr5 hne.1 hne.2 (fun c e => by rcases e with rfl | rfl <;> assumption)).keep k6
      have hi1 : IntKind.i64.wrap ((i : Int) + 1) = ((i + 1 : Nat) : Int) := i64_succ (by omega)
      rw [read_at o1 hf1] at r1
      rw [read_at ho hg1] at r2
      rw [recs_at hf1] at r3
      rw [recs_at hg1] at r4
      have h00 : ((0 : Int) != 0) = false := rfl
      have hpl := b1.length_le
      have hgt : decide (((bytesF f).length : Int) < ((bytesF g).length : Int)) = false := dF (by omega)
      have hsl : asliceStr (.str (bytesF f)) none (some (.int .i64 ((bytesF g).length : Int))) = some (.str (bytesF g)) := by
        obtain ⟨tl, htl⟩ := b1
        rw [asliceStr_take (by omega), ← htl, List.take_left]
      have hgg : (!(bytesF g == bytesF g)) = false := by simp
      have hrg : decide ((f.recs.length : Int) < (g.recs.length : Int)) = false := dF (by omega)
      have hsy : (((g.syn : Nat) : Int) != ((g.recs.length : Nat) : Int)) = false := by rw [b3]; simp
      have next : F12_l0 (Ahs.runT ap (n + 4)) lim N K j (ptr b) (ptr bt) vn (.int .i64 ((i + 1 : Nat) : Int)) H6 := by
        refine beg_loop hMb hMm hne hlb hlm h1 hK1 o1 hns hcr hvn hK j (i + 1) H6 _ (K2 + 2) (hd5.keep k6) ht6 (s5.keep k6) hD2 (by omega) b6 b7 (fun y hy => ?_) (fun c e => by have := hM c e; omega) (by omega) (by omega) (by omega)
        rw [b8 y (fun e => hnd.1 (by rw [← e]; exact hy))]
        exact hlk y (by simp [hy])
      have e90 : ((9 : Int) != 0) = true := rfl
      have e99 : ((9 : Int) != 9) = false := rfl
      have f90 : ((9 : Int) == 0) = false := rfl
      have f00 : ((0 : Int) == 0) = true := rfl
      have hxx : (!(bytesF g ++ [120] == bytesF g ++ [120])) = false := by simp
      have hadd : abin .add (.str (bytesF g)) (.str [120]) = some (.str (bytesF g ++ [120])) := by
        have hgb := (hD.files x g (lk_mem hg1)).bytes
        show (if (((bytesF g).length + ([120] : Str).length : Nat) : Int) > 9223372036854775807 then none else some (AVal.str (bytesF g ++ [120]))) = _
        rw [if_neg (by simp only [List.length_cons, List.length_nil]; omega)]
      by_cases hlt : g.recs.length < f.recs.length
      · have hd1 : decide ((g.recs.length : Int) < (f.recs.length : Int)) = true := dT (by omega)
        have hne' : (bytesF g == bytesF f) = false := by simpa using b4 hlt
        rcases b5 with ⟨c1, c2⟩ | ⟨c1, c2⟩
        · rw [c1] at r5
          rw [c2] at r6
          (repeat (first | (with_reducible apply bindP_intro; (focus (first | with_reducible rfl | (simp only [walkR, get0, getS, Nat.zero_add, Nat.add_zero, Bool.not_true, Bool.not_false, decide_true, decide_false, reduceIte, and_self, Bool.false_eq_true, hl1, hdd, p2, p3, r1, aload_keep k1 p3, r2, h00, hgt, hsl, hgg, aload_keep k02 p3, r3, aload_keep k03 p3, r4, hrg, hsy, hd1, hne', aload_keep k04 p3, r5, p3', r6, e90, e99, f90, hi1] <;> with_reducible rfl)))) | (with_reducible apply bind2_intro; (focus (first | with_reducible rfl | (simp only [walkR, get0, getS, Nat.zero_add, Nat.add_zero, Bool.not_true, Bool.not_false, decide_true, decide_false, reduceIte, and_self, Bool.false_eq_true, hl1, hdd, p2, p3, r1, aload_keep k1 p3, r2, h00, hgt, hsl, hgg, aload_keep k02 p3, r3, aload_keep k03 p3, r4, hrg, hsy, hd1, hne', aload_keep k04 p3, r5, p3', r6, e90, e99, f90, hi1] <;> with_reducible rfl)))) | with_reducible apply cond_t | with_reducible apply cond_f))
          exact next
        · rw [c1] at r5
          rw [c2] at r6
          (repeat (first | (with_reducible apply bindP_intro; (focus (first | with_reducible rfl | (simp only [walkR, get0, getS, Nat.zero_add, Nat.add_zero, Bool.not_true, Bool.not_false, decide_true, decide_false, reduceIte, and_self, Bool.false_eq_true, hl1, hdd, p2, p3, r1, aload_keep k1 p3, r2, h00, hgt, hsl, hgg, aload_keep k02 p3, r3, aload_keep k03 p3, r4, hrg, hsy, hd1, hne', aload_keep k04 p3, r5, p3', r6, f00, hadd, hxx, hi1] <;> with_reducible rfl)))) | (with_reducible apply bind2_intro; (focus (first | with_reducible rfl | (simp only [walkR, get0, getS, Nat.zero_add, Nat.add_zero, Bool.not_true, Bool.not_false, decide_true, decide_false, reduceIte, and_self, Bool.false_eq_true, hl1, hdd, p2, p3, r1, aload_keep k1 p3, r2, h00, hgt, hsl, hgg, aload_keep k02 p3, r3, aload_keep k03 p3, r4, hrg, hsy, hd1, hne', aload_keep k04 p3, r5, p3', r6, f00, hadd, hxx, hi1] <;> with_reducible rfl)))) | with_reducible apply cond_t | with_reducible apply cond_f))
          exact next
      · have hd1 : decide ((g.recs.length : Int) < (f.recs.length : Int)) = false := dF (by omega)
        rcases b5 with ⟨c1, c2⟩ | ⟨c1, c2⟩
        · rw [c1] at r5
          rw [c2] at r6
          (repeat (first | (with_reducible apply bindP_intro; (focus (first | with_reducible rfl | (simp only [walkR, get0, getS, Nat.zero_add, Nat.add_zero, Bool.not_true, Bool.not_false, decide_true, decide_false, reduceIte, and_self, Bool.false_eq_true, hl1, hdd, p2, p3, r1, aload_keep k1 p3, r2, h00, hgt, hsl, hgg, aload_keep k02 p3, r3, aload_keep k03 p3, r4, hrg, hsy, hd1, aload_keep k04 p3, r5, p3', r6, e90, e99, f90, hi1] <;> with_reducible rfl)))) | (with_reducible apply bind2_intro; (focus (first | with_reducible rfl | (simp only [walkR, get0, getS, Nat.zero_add, Nat.add_zero, Bool.not_true, Bool.not_false, decide_true, decide_false, reduceIte, and_self, Bool.false_eq_true, hl1, hdd, p2, p3, r1, aload_keep k1 p3, r2, h00, hgt, hsl, hgg, aload_keep k02 p3, r3, aload_keep k03 p3, r4, hrg, hsy, hd1, aload_keep k04 p3, r5, p3', r6, e90, e99, f90, hi1] <;> with_reducible rfl)))) | with_reducible apply cond_t | with_reducible apply cond_f))
          exact next
        · rw [c1] at r5
          rw [c2] at r6
          (repeat (first | (with_reducible apply bindP_intro; (focus (first | with_reducible rfl | (simp only [walkR, get0, getS, Nat.zero_add, Nat.add_zero, Bool.not_true, Bool.not_false, decide_true, decide_false, reduceIte, and_self, Bool.false_eq_true, hl1, hdd, p2, p3, r1, aload_keep k1 p3, r2, h00, hgt, hsl, hgg, aload_keep k02 p3, r3, aload_keep k03 p3, r4, hrg, hsy, hd1, aload_keep k04 p3, r5, p3', r6, f00, hadd, hxx, hi1] <;> with_reducible rfl)))) | (with_reducible apply bind2_intro; (focus (first | with_reducible rfl | (simp only [walkR, get0, getS, Nat.zero_add, Nat.add_zero, Bool.not_true, Bool.not_false, decide_true, decide_false, reduceIte, and_self, Bool.false_eq_true, hl1, hdd, p2, p3, r1, aload_keep k1 p3, r2, h00, hgt, hsl, hgg, aload_keep k02 p3, r3, aload_keep k03 p3, r4, hrg, hsy, hd1, aload_keep k04 p3, r5, p3', r6, f00, hadd, hxx, hi1] <;> with_reducible rfl)))) | with_reducible apply cond_t | with_reducible apply cond_f))
          exact next
    · have hdd : decide ((i : Int) < (ns.length : Int)) = false := dF (by omega)
      (repeat (first | (with_reducible apply bindP_intro; (focus (first | with_reducible rfl | (simp only [walkR, get0, getS, Nat.zero_add, Nat.add_zero, Bool.not_true, Bool.not_false, decide_true, decide_false, reduceIte, and_self, Bool.false_eq_true, hl1, hdd] <;> with_reducible rfl)))) | (with_reducible apply bind2_intro; (focus (first | with_reducible rfl | (simp only [walkR, get0, getS, Nat.zero_add, Nat.add_zero, Bool.not_true, Bool.not_false, decide_true, decide_false, reduceIte, and_self, Bool.false_eq_true, hl1, hdd] <;> with_reducible rfl)))) | with_reducible apply cond_t | with_reducible apply cond_f))
      unfold F12_j0
      have haw : ∀ G, Ahs.runT ap (n + 4) lim (.fn 38) [] G = some (.bool true, G) := fun G => b38
      (repeat (first | (with_reducible apply bindP_intro; (focus (first | with_reducible rfl | (simp only [walkR, get0, getS, Nat.zero_add, Nat.add_zero, Bool.not_true, Bool.not_false, decide_true, decide_false, reduceIte, and_self, Bool.false_eq_true, haw] <;> with_reducible rfl)))) | (with_reducible apply bind2_intro; (focus (first | with_reducible rfl | (simp only [walkR, get0, getS, Nat.zero_add, Nat.add_zero, Bool.not_true, Bool.not_false, decide_true, decide_false, reduceIte, and_self, Bool.false_eq_true, haw] <;> with_reducible rfl)))) | with_reducible apply cond_t | with_reducible apply cond_f))
      exact hK H

theorem begins {n : Nat} {a0 ks ts : AVal} {l : List PAct} {keep torn : List Int} (hA0 : ActsAt H a0 l) (s1 : Sl H 1 ks (encI keep)) (s2 : Sl H 1 ts (encI torn)) (o1 : ks.one = true) (o2 : ts.one = true) (hi1 : ∀ y ∈ keep, inI64 y) (hi2 : ∀ y ∈ torn, inI64 y) (hn : 100000000 ≤ n) :
    ∃ v H', Ahs.runT ap (n + 8) H.next (.fn 12) [a0, .agg [ks, ts]] H = some (v, H') ∧ v = .bool true := by
  refine F12_run a12 ?_
  unfold F12
  have hb : (([ks, ts] : List AVal).all fun v => v.one) = true := by simp only [List.all_cons, List.all_nil, o1, o2, Bool.and_true]
  have kx : Keeps2 H (H.push (.cells [ks, ts])) := .push _ _
  have cx : (H.push (.cells [ks, ts])).cells H.next = some [ks, ts] := cells_push_new _ _
  have nx : (H.push (.cells [ks, ts])).next = H.next + 1 := Heap.next_push _ _
  obtain ⟨_, H1, g1, k1, t1, rfl, ok1⟩ := great_c (n := n + 5) (lim := H.next) (hA0.keepH kx) (by omega)
  have k1n := k1.next
  have k01 : Keeps2 H H1 := kx.trans k1
  have lx1 : aload H1 (some 2) (.ptr (some (H.next, 0))) = some (.agg [ks, ts]) := aload_all (k1.cells cx) rfl
  obtain ⟨_, H2, g2, rfl, k2, _⟩ := greatC_c (n := n + 6) (lim := H.next) (s1.keep k01) (s2.keep k01) o1 o2
  have k2n := k2.next
  have k02 := k01.trans k2
  have haw : ∀ G, Ahs.runT ap (n + 7) H.next (.fn 38) [] G = some (.bool true, G) := fun G => b38
  cases t1 with
  | true =>
    (repeat (first | (with_reducible apply bindP_intro; (focus (first | with_reducible rfl | (simp only [walkR, get0, getS, Nat.zero_add, Nat.add_zero, Bool.not_true, Bool.not_false, decide_true, decide_false, reduceIte, and_self, Bool.false_eq_true, hb, g1, haw] <;> with_reducible rfl)))) | (with_reducible apply bind2_intro; (focus (first | with_reducible rfl | (simp only [walkR, get0, getS, Nat.zero_add, Nat.add_zero, Bool.not_true, Bool.not_false, decide_true, decide_false, reduceIte, and_self, Bool.false_eq_true, hb, g1, haw] <;> with_reducible rfl)))) | with_reducible apply cond_t | with_reducible apply cond_f))
    exact rfl
  | false =>
    obtain ⟨len1, ok1, _⟩ := ok1 rfl
    cases hgc : greatC keep torn with
    | true =>
      rw [hgc] at g2
      (repeat (first | (with_reducible apply bindP_intro; (focus (first | with_reducible rfl | (simp only [walkR, get0, getS, Nat.zero_add, Nat.add_zero, Bool.not_true, Bool.not_false, decide_true, decide_false, reduceIte, and_self, Bool.false_eq_true, hb, g1, lx1, g2, haw] <;> with_reducible rfl)))) | (with_reducible apply bind2_intro; (focus (first | with_reducible rfl | (simp only [walkR, get0, getS, Nat.zero_add, Nat.add_zero, Bool.not_true, Bool.not_false, decide_true, decide_false, reduceIte, and_self, Bool.false_eq_true, hb, g1, lx1, g2, haw] <;> with_reducible rfl)))) | with_reducible apply cond_t | with_reducible apply cond_f))
      exact rfl
    | false =>
      rw [hgc] at g2
      unfold greatC at hgc
      simp only [Bool.or_eq_false_iff, decide_eq_false_iff_not] at hgc
      obtain ⟨b, m, H3, n1, n2, n3, n4, n5, n6, n7⟩ := new_c (M := fun _ => False) (n := n + 6) (lim := H.next) (H := H2) k02.next
      have n3n := n3.next
      have n2 : DiskAt (fun c => c = b ∨ c = m) H3 b m newD := ⟨n2.cells, n2.map.mono rfl fun _ _ _ h => by simp [newD] at h⟩
      have hM : ∀ c, (fun c => c = b ∨ c = m) c → c < H3.next := fun c e => by rcases e with rfl | rfl <;> assumption
      obtain ⟨rp, H4, p1, p2, p3, p4⟩ := plays_c (n := n) (lim := H.next) (M := fun c => c = b ∨ c = m) n2 newD_ok (by omega) (.inl rfl) (.inr rfl) (by omega) (by omega) hM hA0 (k02.trans n3) (by omega) (by omega) ok1 len1 (by omega)
      obtain ⟨rs, H5, q1, q2, q3⟩ := start_c (n := n + 5) (lim := H.next) p2 (.inl rfl) (by omega)
      obtain ⟨rf, H6, f1, f2, f3⟩ := fuse_c (n := n + 5) (lim := H.next) q2 (.inl rfl) (by omega) 0
      have hD6 := fuseD_ok (startD_ok p4) (n := 0) (by omega)
      have fr6 : Fram (dft b m) H3 H6 := (p3.trans q3 (fun c _ e => e)).trans f3 (fun c _ e => e)
      generalize hD1 : fuseD (startD (playsD newD l)) 0 = D1 at *
      have hoff : D1.off = false := by rw [← hD1]; rfl
      have hfu : D1.fuse = 0 := by rw [← hD1]; rfl
      have n6n := fr6.next
      obtain ⟨H7, w1, w2, w3, w4⟩ := twin_c (n := n + 6) (lim := H.next) f2 hD6 (by omega)
      have w2n := w2.next
      obtain ⟨bt, hbt⟩ : ∃ bt, bt = H6.next + 1 := ⟨_, rfl⟩
      obtain ⟨mt, hmt⟩ : ∃ mt, mt = H6.next := ⟨_, rfl⟩
      have ht7 := w4 (fun c => c = b ∨ c = m ∨ c = bt ∨ c = mt) (fun c e => by omega)
      rw [← hbt] at w1
      rw [← hbt, ← hmt] at ht7
      have hd7 : DiskAt (fun c => c = b ∨ c = m ∨ c = bt ∨ c = mt) H7 b m D1 := (f2.more (M' := fun c => c = b ∨ c = m ∨ c = bt ∨ c = mt) (fun c hc e => by omega)).keep w2
      obtain ⟨vn, H8, x1, x2, x3, x4⟩ := list_c (n := n + 6) (lim := H.next) hd7 hD6 (by omega)
      have x3n := x3.next
      have k06 : Keeps2 H H6 := Fram.keeps (k02.trans n3) fr6 fun c hc e => by rcases e with e | e <;> omega
      have k08 : Keeps2 H H8 := (k06.trans w2).trans x3
      have cx2 := k2.cells (k1.cells cx)
      have cx2n := Heap.cells_lt cx2
      have cx8 : H8.cells H.next = some [ks, ts] := (w2.trans x3).cells (fr6.cells (n3.cells cx2) (fun e => by rcases e with e | e <;> omega))
      have lx8 : aload H8 (some 2) (.ptr (some (H.next, 0))) = some (.agg [ks, ts]) := aload_all cx8 rfl
      have hMin : ∀ c, dft b m c → (fun c => c = b ∨ c = m ∨ c = bt ∨ c = mt) c := fun c e => by rcases e with e | e <;> omega
      obtain ⟨rk, H9, c1, c2, c3⟩ := crash_c (n := n + 4) (lim := H.next) (hd7.keep x3) hD6 (by omega) (by omega) (by omega) (by omega) (by omega) (by omega) s1 s2 (by omega) (by omega) k08 o1 o2 hi1 hi2 (by omega) (by omega)
      have c3n := c3.next
      obtain ⟨ru, H10, u1, u2, u3⟩ := start_c (n := n + 5) (lim := H.next) c2 (by omega) (by omega)
      have u3n := u3.next
      have fr10 : Fram (dft b m) H8 H10 := c3.trans u3 (fun c _ e => e)
      have hDc := startD_ok (crashD_ok hD6 keep torn)
      have hvn : ∀ c, slBlk vn = some c → ¬ dft b m c := fun c hc e => by have := x4 c hc; rcases e with e | e <;> omega
      have ht10 := (ht7.keep x3).frame fr10 (fun e => by rcases e with e | e <;> omega) (fun e => by rcases e with e | e <;> omega) hMin
      have hlen := hD6.len
      (repeat (first | (with_reducible apply bindP_intro; (focus (first | with_reducible rfl | (simp only [walkR, get0, getS, Nat.zero_add, Nat.add_zero, Bool.not_true, Bool.not_false, decide_true, decide_false, reduceIte, and_self, Bool.false_eq_true, hb, g1, lx1, g2, n1, p1, q1, f1, w1, x1, lx8, c1, u1] <;> with_reducible rfl)))) | (with_reducible apply bind2_intro; (focus (first | with_reducible rfl | (simp only [walkR, get0, getS, Nat.zero_add, Nat.add_zero, Bool.not_true, Bool.not_false, decide_true, decide_false, reduceIte, and_self, Bool.false_eq_true, hb, g1, lx1, g2, n1, p1, q1, f1, w1, x1, lx8, c1, u1] <;> with_reducible rfl)))) | with_reducible apply cond_t | with_reducible apply cond_f))
      refine beg_loop (n := n + 3) (Dc := startD (crashD D1 keep torn)) (D1 := D1) (keep := keep) (torn := torn) (ns := D1.fs.map (·.1)) (by omega) (by omega) ⟨fun e => by rcases e with e | e <;> omega, fun e => by rcases e with e | e <;> omega⟩ (by omega) (by omega) hD6 (by omega) hoff rfl (fun x => lk_crash keep torn x 0 D1.fs) hvn (fun _ => rfl) (n + 7) 0 H10 _ _ u2 ht10 (Sl.frame fr10 x2 hvn) hDc (by simp; omega) rfl (by show D1.fuse = 0; exact hfu) (fun _ _ => rfl) (fun c e => by omega) (by omega) (by simp; omega) (Nat.zero_le _)

theorem begins_walk (H : Heap) (vs : List AVal) (h : WfArgs H [(false, .slice actTy .nil), (true, crashTy)] vs) : ∃ n, isTrue (run ap n H.next 12 vs H) = true := by
  obtain ⟨a0, _, rfl, h0, a3, _, rfl, h3, rfl⟩ := h
  simp only [Bool.false_eq_true, if_false, if_true] at h0 h3
  obtain ⟨l0, A0⟩ := wf_acts h0
  obtain ⟨cs, rfl, hc⟩ := h3
  obtain ⟨ks, ts, keep, torn, rfl, s1, s2, o1, o2, k1, k2⟩ := wf_crash hc
  exact ⟨_, isTrue_run (begins (n := 100000000) A0 s1 s2 o1 o2 k1 k2 (Nat.le_refl _))⟩

end
end Go.Proofs.Ytjflpnahjooffaa.disk
