/- From the library's contracts, told of the model's memory, to what stands for a function in the abstract machine: strings.Join. -/
import Derived.Test.YtjflpnahjooffaaChsB1
import Derived.Below
import Derived.Lib.Join
import Derived.Lib.Builder
set_option linter.unusedSimpArgs false
set_option linter.unusedVariables false
namespace Go.Ahs
open Go.RowKit
theorem Post.below {P : Program} {n0 lim : Nat} {ρ : Mp} {H : Heap} {w w' : World} (hr : Rel P n0 ρ H w) (hb : Below w.heap.size w w') : Post P n0 lim ρ H w ρ H w' := by
 have hold : ∀ b L, ρ b = some L → w'.heap[L.blk]? = w.heap[L.blk]? := fun b L e => hb.block _ (hr.dom b L e)
 refine ⟨⟨fun b L cs e e' => ?_, fun b L es cl e e' => ?_, fun b L r e e' => ?_, fun b L e => Nat.lt_of_lt_of_le (hr.dom b L e) hb.size, hr.excl⟩, .refl ρ, fun b L e e' => by rw [e] at e'; simp at e', fun r h1 _ => hb.block r h1, hb.size, fun _ _ => rfl, Nat.le_refl _, ⟨hb.os, hb.tape, hb.output⟩⟩
 ·obtain ⟨c, ⟨t, fr, q1, q2, q3⟩, q4, q5⟩ := hr.row b L cs e e'
  exact ⟨c, ⟨t, fr, by rw [hold b L e]; exact q1, q2, q3⟩, q4, q5⟩
 ·obtain ⟨es', q1, q2⟩ := hr.map b L es cl e e'
  exact ⟨es', by rw [hold b L e]; exact q1, q2⟩
 ·obtain ⟨r', q1, q2⟩ := hr.loop b L r e e'
  exact ⟨r', by rw [hold b L e]; exact q1, q2⟩
def strsOfCells : List AVal → Option (List (List UInt8))
 | [] => some []
 | .str s :: rest => (strsOfCells rest).map (s :: ·)
 | _ => none
def strsOf (H : Heap) : AVal → Option (List (List UInt8))
 | .sl none n _ => if n = 0 then some [] else none
 | .sl (some (b, o)) n _ => if n = 0 then some [] else
  match H.cells b with
  | some cs => (cut cs o n).bind strsOfCells
  | none => none
 | _ => none
theorem strsOfCells_rel {ρ : Mp} : ∀ {l : List AVal} {xs : List (List UInt8)} {as : List Value}, strsOfCells l = some xs → LRel ρ l as → ∃ ys : List ByteArray, as = ys.map .string ∧ ys.map (fun y => y.data.toList) = xs
 | [], xs, as, h, hl => by
  simp [strsOfCells] at h; subst h
  have : as = [] := List.eq_nil_of_length_eq_zero (by rw [← hl.1]; rfl)
  subst this
  exact ⟨[], rfl, rfl⟩
 | v :: l, xs, as, h, hl => by
  match as, hl with
  | [], hl => have := hl.1; simp at this
  | a :: as, hl =>
   cases v <;> simp [strsOfCells] at h
   rename_i s
   obtain ⟨ys0, h1, rfl⟩ := h
   obtain ⟨ys, rfl, h3⟩ := strsOfCells_rel h1 hl.tail
   have ha := hl.head
   cases ha with
   | str e =>
    rename_i s'
    exact ⟨s' :: ys, rfl, by simp [e, h3]⟩
def gJoin : Nat → List AVal → Heap → Option (AVal × Heap) := fun _ args H =>
 match args with
 | [v, .str sep] => match strsOf H v with
  | some xs => if (Nat.ble (Lib.join xs sep).length 140737488355328 && Nat.ble xs.length 140737488355328) = true then some (.str (Lib.join xs sep), H) else none
  | none => none
 | _ => none
theorem join_ok {P : Program} {f : FuncId} (hfn : ∃ fn, P.funcs[f]? = some fn ∧ fn.body.isSome = true ∧ (fn.name == "runtime.NumGoroutine") = false)
  (h0 : ∀ (a : Option Addr) (c : Nat) (sep : ByteArray) (w : World), Calls P f #[.slice a 0 c, .string sep] w fun e w' => e = .returned (.string ⟨#[]⟩) ∧ w' = w)
  (h1 : ∀ (bk o c : Nat) (xs : List ByteArray) (sep : ByteArray) (w : World), (∀ (j : Nat) x, xs[j]? = some x → w.cell? ⟨bk, o + j, none⟩ = some (.string x)) → bk < w.heap.size → xs.length ≤ 140737488355328 → xs.length ≤ c →
   (Lib.join (xs.map (·.data.toList)) sep.data.toList).length ≤ 140737488355328 → Calls P f #[.slice (some ⟨bk, o, none⟩) xs.length c, .string sep] w fun e w' => e = .returned (.string ⟨(Lib.join (xs.map (·.data.toList)) sep.data.toList).toArray⟩) ∧ Below w.heap.size w w') : PrimOK P f gJoin where
 keeps := fun lim args H v H' hl h => by
  unfold gJoin at h
  split at h
  ·split at h
   ·split at h <;> simp at h
    obtain ⟨_, rfl⟩ := h
    exact ⟨Nat.le_refl _, fun _ _ => rfl⟩
   ·simp at h
  ·simp at h
 fn := hfn
 calls := fun n0 lim args H v H' h ρ w args' hl hlim hfr hr ha => by
  unfold gJoin at h
  split at h
  case h_2 => simp at h
  rename_i x sep
  split at h
  case h_2 => simp at h
  rename_i xs hxs
  split at h <;> simp at h
  rename_i hc
  obtain ⟨rfl, rfl⟩ := h
  simp only [Bool.and_eq_true, Nat.ble_eq] at hc
  obtain ⟨x', rest, e1, hx, hrest⟩ : ∃ x' rest, args'.toList = x' :: rest ∧ VRel ρ x x' ∧ LRel ρ [.str sep] rest := by
   match hh : args'.toList, ha with
   | [], ha => have := ha.1; simp at this
   | a :: as, ha => exact ⟨a, as, rfl, ha.head, ha.tail⟩
  obtain ⟨s', rfl, hs⟩ : ∃ s' : ByteArray, rest = [.string s'] ∧ s'.data.toList = sep := by
   match rest, hrest with
   | [], hr => have := hr.1; simp at this
   | [a], hr =>
    have := hr.head
    cases this with
    | str e => exact ⟨_, rfl, e⟩
   | _ :: _ :: _, hr => have := hr.1; simp at this
  obtain rfl : args' = #[x', .string s'] := by
   have : args' = args'.toList.toArray := by simp
   rw [this, e1]
  have fin : ∀ (l : List UInt8) (w' : World), Lib.join xs sep = l → Below w.heap.size w w' → Ended P n0 lim ρ H w (.str (Lib.join xs sep)) H (.returned (.string ⟨l.toArray⟩)) w' := by
   intro l w' e hb
   exact ⟨_, ρ, rfl, by rw [e]; exact .str (by simp), .below hr hb⟩
  have zero : ∀ (a : Option Addr) (c : Nat), xs = [] → x' = .slice a 0 c → Calls P f #[x', .string s'] w (Ended P n0 lim ρ H w (.str (Lib.join xs sep)) H) := by
   rintro a c rfl rfl
   refine (h0 a c s' w).mono ?_
   rintro e w' ⟨rfl, rfl⟩
   exact fin [] _ (Lib.join_nil sep) (Below.refl _ _)
  unfold strsOf at hxs
  split at hxs
  ·rename_i n c
   split at hxs <;> simp at hxs
   rename_i hn
   subst hn hxs
   cases hx with
   | slN => exact zero _ _ rfl rfl
  ·rename_i b o n c
   by_cases hn : n = 0
   ·rw [if_pos hn] at hxs
    simp at hxs
    subst hn hxs
    cases hx with
    | slX _ _ => exact zero _ _ rfl rfl
    | slO _ _ _ _ => exact zero _ _ rfl rfl
    | slE _ _ => exact zero _ _ rfl rfl
    | slU _ _ => exact zero _ _ rfl rfl
    | slF _ => exact zero _ _ rfl rfl
    | slG _ => exact zero _ _ rfl rfl
   ·rw [if_neg hn] at hxs
    split at hxs
    case h_2 => simp at hxs
    rename_i cs hcs
    rw [Option.bind_eq_some_iff] at hxs
    obtain ⟨cl, hcut, hstr⟩ := hxs
    unfold cut at hcut
    split at hcut <;> simp at hcut
    rename_i hle
    subst hcut
    have full : ∀ (L : Loc) (cp : Nat), ρ b = some L → x' = .slice (some ⟨L.blk, L.d + o, none⟩) n cp → n ≤ cp → Calls P f #[x', .string s'] w (Ended P n0 lim ρ H w (.str (Lib.join xs sep)) H) := by
     rintro L cp hb rfl hcp
     obtain ⟨cc, e, fr, g1, g2, g3, g4, g5⟩ := hr.cells hb hcs
     have hrow := g5.drop_take (o := o) (n := n) (by omega)
     obtain ⟨ys, hys, hyx⟩ := strsOfCells_rel hstr hrow
     have hlen : ys.length = n := by
      have := congrArg List.length hys
      simp only [List.length_take, List.length_drop, List.length_map] at this
      have hcc : cc.toList.length = cc.size := by simp
      omega
     have hcell : ∀ (j : Nat) x, ys[j]? = some x → w.cell? ⟨L.blk, L.d + o + j, none⟩ = some (.string x) := by
      intro j y hj
      rw [Lib.cell_of_heap g1]
      have h2 : (ys.map Value.string)[j]? = some (.string y) := by rw [List.getElem?_map, hj]; rfl
      rw [← hys] at h2
      have hjn : j < n := by
       rcases Nat.lt_or_ge j ys.length with h | h
       ·omega
       ·rw [List.getElem?_eq_none h] at hj; simp at hj
      rw [List.getElem?_take, if_pos hjn, List.getElem?_drop] at h2
      simpa using h2
     have := h1 L.blk (L.d + o) cp ys s' w hcell (hr.dom b L hb) (by have := hc.2; rw [← hyx, List.length_map] at this; exact this) (by omega) (by rw [hyx, hs]; exact hc.1)
     rw [hlen] at this
     refine this.mono ?_
     rintro e w' ⟨rfl, hbel⟩
     exact fin _ w' (by rw [hyx, hs]) hbel
    cases hx with
    | slX hb hcp => exact full _ _ hb rfl hcp
    | slO hb hcp _ _ => exact full _ _ hb rfl hcp
    | slE _ _ => exact absurd rfl hn
    | slU hb hcp => exact full _ _ hb rfl hcp
    | slF _ => exact absurd rfl hn
    | slG _ => exact absurd rfl hn
  ·simp at hxs
end Go.Ahs
