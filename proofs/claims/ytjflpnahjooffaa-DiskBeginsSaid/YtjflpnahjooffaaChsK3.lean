/- The keys of a map, in their row: out of the library's contracts (slices.Sorted of maps.Keys). -/
import Derived.Test.YtjflpnahjooffaaChsK1
import Derived.Sort.KeysCollected
import Derived.Sort.Walk0
set_option linter.unusedSimpArgs false
set_option linter.unusedVariables false
namespace Go.Ahs
open Go.RowKit Go.Maps Go.MapKept
open Go.WideElems (Fit rd rg)

def keyStrs : List (AVal × AVal) → Option (List (List UInt8))
  | [] => some []
  | (.str s, _) :: r => (keyStrs r).map (s :: ·)
  | _ => none

/-- Sorted, by what the kernel can run. -/
def insS (x : List UInt8) : List (List UInt8) → List (List UInt8)
  | [] => [x]
  | y :: ys => bif Op.bytesLess y x then y :: insS x ys else x :: y :: ys
def sortS : List (List UInt8) → List (List UInt8)
  | [] => []
  | x :: xs => insS x (sortS xs)

theorem insS_perm (x : List UInt8) : ∀ ys, (insS x ys).Perm (x :: ys)
  | [] => .refl _
  | y :: ys => by
    unfold insS
    cases Op.bytesLess y x with
    | true => exact ((insS_perm x ys).cons y).trans (List.Perm.swap x y ys)
    | false => exact .refl _
theorem sortS_perm : ∀ ks, (sortS ks).Perm ks
  | [] => .refl _
  | x :: xs => (insS_perm x (sortS xs)).trans ((sortS_perm xs).cons x)
theorem insS_sorted (x : List UInt8) : ∀ ys : List (List UInt8), ys.Pairwise (fun a b => a ≤ b) → (insS x ys).Pairwise fun a b => a ≤ b
  | [], _ => by simp [insS]
  | y :: ys, h => by
    have h1 := List.pairwise_cons.1 h
    unfold insS
    cases hb : Op.bytesLess y x with
    | true =>
      rw [Go.Proofs.bytesLess_eq] at hb
      have hlt := of_decide_eq_true hb
      refine List.pairwise_cons.2 ⟨fun z hz => ?_, insS_sorted x ys h1.2⟩
      rcases List.mem_cons.1 ((insS_perm x ys).mem_iff.1 hz) with rfl | hz
      · exact List.le_of_lt hlt
      · exact h1.1 z hz
    | false =>
      rw [Go.Proofs.bytesLess_eq] at hb
      have hle : x ≤ y := List.not_lt.1 (of_decide_eq_false hb)
      refine List.pairwise_cons.2 ⟨fun z hz => ?_, h⟩
      rcases List.mem_cons.1 hz with rfl | hz
      · exact hle
      · exact List.le_trans hle (h1.1 z hz)
theorem sortS_sorted : ∀ ks : List (List UInt8), (sortS ks).Pairwise fun a b => a ≤ b
  | [] => .nil
  | x :: xs => insS_sorted x _ (sortS_sorted xs)
theorem sortS_eq (ks : List (List UInt8)) : sortS ks = ks.mergeSort leB := by
  have tr : ∀ a b c : List UInt8, leB a b = true → leB b c = true → leB a c = true := fun a b c h1 h2 => by simp only [leB, decide_eq_true_eq] at *; exact List.le_trans h1 h2
  have to : ∀ a b : List UInt8, (leB a b || leB b a) = true := fun a b => by simp only [leB, Bool.or_eq_true, decide_eq_true_eq]; exact List.le_total a b
  refine List.Perm.eq_of_pairwise (le := fun a b => leB a b = true) (fun a b _ _ h1 h2 => ?_) ((sortS_sorted ks).imp fun h => by simpa [leB] using h) (List.pairwise_mergeSort tr to ks) ((sortS_perm ks).trans (List.mergeSort_perm ks leB).symm)
  simp only [leB, decide_eq_true_eq] at h1 h2
  exact List.le_antisymm h1 h2

def namesO (H : Heap) (ks : List (List UInt8)) : Option (AVal × Heap) :=
  if ks.all (fun k => Nat.ble k.length 140737488355328) && Nat.ble ks.length 1000000000 then
    (if ks = [] then some (.sl none 0 (.ex 0), H) else some (.sl (some (H.next, 0)) (sortS ks).length .un, H.push (.cells ((sortS ks).map .str))))
  else none

def gList : Nat → List AVal → Heap → Option (AVal × Heap) := fun _ args H =>
  match args with
  | [.ptr (some a)] => match aload H none (.ptr (some a)) with
    | some (.map (some m)) => match (mapEs H (.map (some m))).bind keyStrs with
      | some ks => namesO H ks
      | none => none
    | _ => none
  | _ => none

theorem keyStrs_rel {ρ : Mp} : ∀ {es : List (AVal × AVal)} {ks : List (List UInt8)}, keyStrs es = some ks → ∀ e ∈ es, ∃ s, e.1 = .str s ∧ s ∈ ks
  | [], ks, h, e, he => by simp at he
  | x :: es, ks, h, e, he => by
    obtain ⟨k, v⟩ := x
    cases k <;> simp [keyStrs] at h
    rename_i s
    obtain ⟨ks', h1, rfl⟩ := h
    rcases List.mem_cons.1 he with rfl | he
    · exact ⟨s, rfl, by simp⟩
    · obtain ⟨s', q1, q2⟩ := keyStrs_rel (ρ := ρ) h1 e he
      exact ⟨s', q1, by simp [q2]⟩

def strOfA : AVal → List UInt8
  | .str s => s
  | _ => []

theorem keyStrs_eq : ∀ {es : List (AVal × AVal)} {ks : List (List UInt8)}, keyStrs es = some ks → ks = es.map fun e => strOfA e.1
  | [], ks, h => by simp [keyStrs] at h; simp [h]
  | x :: es, ks, h => by
    obtain ⟨k, v⟩ := x
    cases k <;> simp [keyStrs] at h
    rename_i s
    obtain ⟨ks', h1, rfl⟩ := h
    simp [keyStrs_eq h1, strOfA]

theorem namesO_inv {H : Heap} {ks : List (List UInt8)} {v : AVal} {H' : Heap} (h : namesO H ks = some (v, H')) :
    (∀ k ∈ ks, k.length ≤ 140737488355328) ∧ ks.length ≤ 1000000000 ∧ ((ks = [] ∧ v = .sl none 0 (.ex 0) ∧ H' = H) ∨ (ks ≠ [] ∧ v = .sl (some (H.next, 0)) (sortS ks).length .un ∧ H' = H.push (.cells ((sortS ks).map .str)))) := by
  unfold namesO at h
  split at h
  case isFalse => simp at h
  rename_i hc
  simp only [Bool.and_eq_true, List.all_eq_true, Nat.ble_eq] at hc
  refine ⟨hc.1, hc.2, ?_⟩
  split at h
  · rename_i e
    simp at h
    exact .inl ⟨e, h.1.symm, h.2.symm⟩
  · rename_i e
    simp at h
    exact .inr ⟨e, h.1.symm, h.2.symm⟩

theorem list_ok {P : Program} {f : FuncId} {kt rt : TypeId} (hk : P.underlying kt = some .string) (hfn : ∃ fn, P.funcs[f]? = some fn ∧ fn.body.isSome = true ∧ (fn.name == "runtime.NumGoroutine") = false)
    (hc : ∀ (a : Addr) (b nn : Nat) (D0 : DataW Unit) (R : Value → Option (DataW Unit × List MemPlace)) (w : World), w.cell? a = some (.map (some b)) → w.ownsMap P kt R b nn D0 → Maps.size D0 ≤ maxLen → Maps.size D0 * 16 ≤ 140737488355328 →
      Calls P f #[.pointer (some a)] w fun e w' => ∃ (v : Value) (ss : List (List UInt8)), e = .returned v ∧ ss.Perm (strKeys D0) ∧ w'.ownsRow w.heap.size rt 1 v ss.length ((ss.mergeSort leB).map Go.Proofs.encStr) ∧ (v = .slice none 0 0 ↔ ss = []) ∧ Below w.heap.size w w') : PrimOK P f gList where
  keeps := fun lim args H v H' hl h => by
    unfold gList at h
    split at h <;> try (simp at h; done)
    split at h <;> try (simp at h; done)
    split at h <;> try (simp at h; done)
    obtain ⟨_, _, h | h⟩ := namesO_inv h
    · rw [h.2.2]; exact ⟨Nat.le_refl _, fun _ _ => rfl⟩
    · rw [h.2.2]; exact ⟨by rw [Heap.next_push]; omega, fun b hb => Heap.get_push_old _ _ _ (by omega)⟩
  fn := hfn
  calls := fun n0 lim args H v H' h ρ w args' hl hlim hfr hr ha => by
    unfold gList at h
    split at h <;> try (simp at h; done)
    rename_i bo
    obtain ⟨b, o⟩ := bo
    split at h <;> try (simp at h; done)
    rename_i m hm
    split at h <;> try (simp at h; done)
    rename_i ks hks
    rw [Option.bind_eq_some_iff] at hks
    obtain ⟨es, hes, hks⟩ := hks
    obtain ⟨n1, n2, n3⟩ := namesO_inv h
    -- the argument
    obtain ⟨L, hL, rfl⟩ : ∃ L, ρ b = some L ∧ args' = #[.pointer (some ⟨L.blk, L.d + o, none⟩)] := by
      match hh : args'.toList, ha with
      | [], ha => have := ha.1; simp at this
      | _ :: _ :: _, ha => have := ha.1; simp at this
      | [x], ha =>
        have := ha.head
        cases this with
        | ptr e =>
          rename_i L
          refine ⟨L, e, ?_⟩
          have : args' = args'.toList.toArray := by simp
          rw [this, hh]
    -- the cell
    obtain ⟨cs, hcs⟩ : ∃ cs, H.cells b = some cs := by
      cases hq : H.cells b with
      | none => simp only [aload, hq] at hm; simp at hm
      | some cs => exact ⟨cs, rfl⟩
    simp only [aload, hcs] at hm
    obtain ⟨cc, e, fr, g1, g2, g3, g4, g5⟩ := hr.cells hL hcs
    have hoL : o < cs.length := by
      rcases Nat.lt_or_ge o cs.length with q | q
      · exact q
      · rw [List.getElem?_eq_none q] at hm; simp at hm
    obtain ⟨x', hx'⟩ : ∃ x', ((cc.toList.drop L.d).take cs.length)[o]? = some x' := by
      rw [List.getElem?_take, if_pos hoL, List.getElem?_drop]
      exact ⟨_, List.getElem?_eq_getElem (by simp; omega)⟩
    have hv := g5.2 o _ _ hm hx'
    rw [List.getElem?_take, if_pos hoL, List.getElem?_drop] at hx'
    cases hv with
    | map hLm =>
    rename_i Lm
    have hcell : w.cell? ⟨L.blk, L.d + o, none⟩ = some (.map (some Lm.blk)) := by
      rw [Lib.cell_of_heap g1]
      simpa using hx'
    -- the map
    simp only [mapEs] at hes
    split at hes <;> simp at hes
    rename_i es0 clk hg
    subst hes
    obtain ⟨es', he1, he2⟩ := hr.map _ Lm _ clk hLm hg
    obtain ⟨l, hp, hE⟩ := he2.perm
    have hkey : ∀ e ∈ es'.toList, ∃ s : ByteArray, e.key = .string s ∧ s.data.toList ∈ ks := by
      intro e he
      obtain ⟨i, hi, hx⟩ := List.getElem_of_mem he
      have hil : i < l.length := by rw [hE.1]; exact hi
      have h1 := hE.2 i l[i].1 l[i].2 e (by rw [List.getElem?_eq_getElem hil]) (by rw [List.getElem?_eq_getElem hi, hx])
      obtain ⟨s, q1, q2⟩ := keyStrs_rel (ρ := ρ) hks l[i] (hp.mem_iff.1 (List.getElem_mem hil))
      rw [q1] at h1
      have h2 := h1.1
      cases hk' : e.key <;> rw [hk'] at h2 <;> cases h2
      rename_i s' e'
      exact ⟨s', rfl, by rw [e']; exact q2⟩
    have hrd : ∀ e ∈ es'.toList, ∃ s : ByteArray, e.key = .string s ∧ rd P kt (fun _ => some ((.nil : DataW Unit), [])) e = some (.string s.data.toList, .nil) := by
      intro e he
      obtain ⟨s, q1, q2⟩ := hkey e he
      refine ⟨s, q1, ?_⟩
      unfold rd
      have hb := n1 _ q2
      have e0 : s.size = s.data.toList.length := by rw [Array.length_toList]; rfl
      have e1 : s.size ≤ maxLen := by rw [e0]; exact Nat.le_trans hb (by decide)
      rw [q1, Go.WideMaps.keyOf_string_mk hk e1]
      rfl
    have hlen : es'.size = ks.length := by
      have h1 := hE.1
      have h2 := hp.length_eq
      rw [keyStrs_eq hks, List.length_map, ← h2, h1, Array.length_toList]
    have hkeysN : (es'.toList.map (·.key)).Nodup := by
      have hln : (l.map (·.1)).Nodup := (hp.map (·.1)).nodup_iff.2 he2.keys
      rw [List.Nodup, List.pairwise_iff_getElem] at hln ⊢
      intro i j hi hj hij
      simp only [List.length_map] at hi hj
      have hil : i < l.length := by rw [hE.1]; exact hi
      have hjl : j < l.length := by rw [hE.1]; exact hj
      have h0 := hln i j (by simpa using hil) (by simpa using hjl) hij
      simp only [List.getElem_map] at h0 ⊢
      intro e
      apply h0
      have q1 := (hE.2 i l[i].1 l[i].2 es'.toList[i] (by rw [List.getElem?_eq_getElem hil]) (by rw [List.getElem?_eq_getElem hi])).1
      have q2 := (hE.2 j l[j].1 l[j].2 es'.toList[j] (by rw [List.getElem?_eq_getElem hjl]) (by rw [List.getElem?_eq_getElem hj])).1
      obtain ⟨s1, r1, _⟩ := keyStrs_rel (ρ := ρ) hks l[i] (hp.mem_iff.1 (List.getElem_mem hil))
      obtain ⟨s2, r2, _⟩ := keyStrs_rel (ρ := ρ) hks l[j] (hp.mem_iff.1 (List.getElem_mem hjl))
      rw [r1] at q1 ⊢
      rw [r2, ← e] at q2
      rw [r2]
      generalize es'.toList[i].key = y at q1 q2
      cases q1 with
      | str e1 => cases q2 with
        | str e2 => rw [← e1, ← e2]
    have hsz : es'.size ≤ maxLen := by rw [hlen]; exact Nat.le_trans n2 (by decide)
    have hown : w.ownsMap P kt (fun _ => some ((.nil : DataW Unit), [])) Lm.blk es'.size (.map ((es'.toList.map (rg P kt fun _ => some ((.nil : DataW Unit), []))).foldr DataW.insert [])) :=
      ⟨es', clk.n, he1, ⟨hsz, ⟨he2.young, he2.born, hkeysN⟩, fun x hx => by obtain ⟨s, _, q⟩ := hrd x hx; exact ⟨_, q⟩⟩, Nat.le_refl _, rfl⟩
    have hsize : Maps.size (.map ((es'.toList.map (rg P kt fun _ => some ((.nil : DataW Unit), []))).foldr DataW.insert [])) = ks.length := by
      rw [Maps.size_eq, (Go.WideShapes.sorted_perm _).length_eq, List.length_map, Array.length_toList, hlen]
    have hperm : (strKeys (.map ((es'.toList.map (rg P kt fun _ => some ((.nil : DataW Unit), []))).foldr DataW.insert []))).Perm ks := by
      refine ((Go.WideShapes.sorted_perm _).map _).trans ?_
      rw [keyStrs_eq hks]
      refine List.Perm.trans ?_ (hp.map _)
      rw [List.map_map]
      have : es'.toList.map ((fun p : Lit × DataW Unit => strOf p.1) ∘ rg P kt fun _ => some ((.nil : DataW Unit), [])) = l.map fun e => strOfA e.1 := by
        apply List.ext_getElem
        · simp [hE.1]
        · intro i h1 h2
          simp only [List.length_map] at h1 h2
          simp only [List.getElem_map, Function.comp]
          obtain ⟨s, q1, q2⟩ := hrd es'.toList[i] (List.getElem_mem h1)
          have q := (hE.2 i l[i].1 l[i].2 es'.toList[i] (by rw [List.getElem?_eq_getElem h2]) (by rw [List.getElem?_eq_getElem h1])).1
          unfold rg
          rw [q2, Option.getD_some]
          rw [q1] at q
          show s.data.toList = _
          generalize l[i].1 = y at q
          cases q with
          | str e => exact e
      rw [this]
    refine (hc _ _ _ _ _ w hcell hown (by rw [hsize]; exact Nat.le_trans n2 (by decide)) (by rw [hsize]; omega)).mono ?_
    rintro e w' ⟨v', ss, rfl, hss, hrow, hnil, hb⟩
    have hsk : ss.Perm ks := hss.trans hperm
    have hsort : ss.mergeSort leB = sortS ks := (mergeSort_of_perm hsk).trans (sortS_eq ks).symm
    have hlss : ss.length = (sortS ks).length := by rw [hsk.length_eq]; exact (sortS_perm ks).length_eq.symm
    obtain ⟨r1, r2⟩ := hrow
    rcases n3 with ⟨rfl, rfl, rfl⟩ | ⟨hne, rfl, rfl⟩
    · have h0 : ss = [] := List.eq_nil_of_length_eq_zero (by rw [hsk.length_eq]; rfl)
      rw [hnil.2 h0]
      exact ⟨_, ρ, rfl, .slN, .below hr hb⟩
    · have hpos : 0 < ss.length := by
        rw [hsk.length_eq]
        exact List.length_pos_iff.2 hne
      rcases r2 with ⟨rfl, h0⟩ | ⟨g, cap, cur, rfl, hbg, hgc, hnc, _, hcs', htk⟩
      · omega
      · rw [hsort] at htk
        rw [hlss] at hnc htk ⊢
        simp only [Nat.mul_one] at htk hcs'
        have hfree : ρ H.next = none := hfr H.next (Nat.le_refl _) (by rw [Heap.next_push]; omega)
        refine ⟨_, upd ρ H.next ⟨g, 0, cur.size⟩, rfl, ?_, ?_⟩
        · have := VRel.slU (ρ := upd ρ H.next ⟨g, 0, cur.size⟩) (b := H.next) (o := 0) (L := ⟨g, 0, cur.size⟩) (upd_same ρ H.next _) hnc
          exact this
        · refine hr.grow hlim hfree ⟨g, 0, cur.size⟩ _ hbg (by exact (Array.getElem?_eq_some_iff.1 hgc).1) hb.block ⟨?_, fun _ _ h => by simp at h, fun _ h => by simp at h⟩ ⟨hb.os, hb.tape, hb.output⟩
          intro cs1 h1
          simp at h1
          subst h1
          refine ⟨cur, ⟨_, (0, 0), hgc, rfl, fun _ i _ => by omega⟩, by simp; omega, ?_⟩
          simp only [List.drop_zero, List.length_map]
          rw [htk]
          refine ⟨by simp, fun i v v' h1 h2 => ?_⟩
          rw [List.getElem?_map] at h1 h2
          cases hq : (sortS ks)[i]? with
          | none => rw [hq] at h1; simp at h1
          | some s =>
            rw [hq] at h1 h2
            simp at h1 h2
            subst h1 h2
            exact .str rfl

end Go.Ahs
