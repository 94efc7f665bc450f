/- slices.SortFunc over rows of eight bytes, as bytes.Compare says: out of the library's contracts. First part: the closure that compares. -/
import Derived.Test.YtjflpnahjooffaaChsK1
import Derived.Test.YtjflpnahjooffaaChsXM
import Derived.Test.YtjflpnahjooffaaChecked
import Derived.Shelf.SlSortCmp.WholeK
import Derived.Lib.BytesEntry
import Derived.KernelRfl
import Derived.Sort.Walk0
import Derived.Shelf.SlSortCmp.NoneTotal
import Derived.Test.YtjflpnahjooffaaCyM
set_option maxRecDepth 100000
set_option linter.unusedVariables false
set_option linter.unusedSimpArgs false
namespace Go.Proofs
def Try.laysSort_ren : Go.Shelf.Ren := ⟨fun | 6 => 102 | 15 => 119 | 14 => 118 | 28 => 132 | 29 => 133 | 20 => 124 | 21 => 125 | 22 => 126 | 23 => 127 | 24 => 128 | 25 => 129 | 26 => 130 | 27 => 131 | 46 => 145 | 47 => 146 | 48 => 147 | 49 => 148 | 50 => 149 | 57 => 154 | n => n, fun | 22 => 67 | 24 => 41 | 25 => 132 | 3 => 3 | 39 => 163 | 0 => 0 | 53 => 195 | 55 => 111 | 4 => 4 | 46 => 188 | 45 => 187 | 50 => 192 | 5 => 5 | 9 => 9 | 66 => 206 | 70 => 161 | 76 => 213 | 77 => 82 | n => n, fun | n => n⟩
theorem Try.laysSort : Go.Proofs.SlLaysF0.n6 Try.prog Try.laysSort_ren := { mixed := by kernel_rfl, f6 := ⟨ "slices.SortFunc[[]wapentake/api.Token,wapentake/api.Token]", by decide, Try.func102.trans (congrArg some (by kernel_rfl))⟩, f14 := ⟨ "slices.pdqsortCmpFunc[wapentake/api.Token]", by decide, Try.func118.trans (congrArg some (by kernel_rfl))⟩, f15 := Try.func119.trans (congrArg some (by kernel_rfl)), f20 := ⟨ "slices.insertionSortCmpFunc[wapentake/api.Token]", by decide, Try.func124.trans (congrArg some (by kernel_rfl))⟩, f21 := ⟨ "slices.heapSortCmpFunc[wapentake/api.Token]", by decide, Try.func125.trans (congrArg some (by kernel_rfl))⟩, f22 := ⟨ "slices.breakPatternsCmpFunc[wapentake/api.Token]", by decide, Try.func126.trans (congrArg some (by kernel_rfl))⟩, f23 := ⟨ "slices.choosePivotCmpFunc[wapentake/api.Token]", by decide, Try.func127.trans (congrArg some (by kernel_rfl))⟩, f24 := ⟨ "slices.reverseRangeCmpFunc[wapentake/api.Token]", by decide, Try.func128.trans (congrArg some (by kernel_rfl))⟩, f25 := ⟨ "slices.partialInsertionSortCmpFunc[wapentake/api.Token]", by decide, Try.func129.trans (congrArg some (by kernel_rfl))⟩, f26 := ⟨ "slices.partitionEqualCmpFunc[wapentake/api.Token]", by decide, Try.func130.trans (congrArg some (by kernel_rfl))⟩, f27 := ⟨ "slices.partitionCmpFunc[wapentake/api.Token]", by decide, Try.func131.trans (congrArg some (by kernel_rfl))⟩, f28 := Try.func132.trans (congrArg some (by kernel_rfl)), f29 := Try.func133.trans (congrArg some (by kernel_rfl)), f46 := ⟨ "slices.siftDownCmpFunc[wapentake/api.Token]", by decide, Try.func145.trans (congrArg some (by kernel_rfl))⟩, f47 := Try.func146.trans (congrArg some (by kernel_rfl)), f48 := Try.func147.trans (congrArg some (by kernel_rfl)), f49 := ⟨ "slices.medianAdjacentCmpFunc[wapentake/api.Token]", by decide, Try.func148.trans (congrArg some (by kernel_rfl))⟩, f50 := ⟨ "slices.medianCmpFunc[wapentake/api.Token]", by decide, Try.func149.trans (congrArg some (by kernel_rfl))⟩, f57 := ⟨ "slices.order2CmpFunc[wapentake/api.Token]", by decide, Try.func154.trans (congrArg some (by kernel_rfl))⟩, t0 := Try.underlying0, a0 := Try.isAgg0, z0 := Try.sizeOf0, v0 := Try.zeroValue0, t3 := Try.underlying3, a3 := Try.isAgg3, z3 := Try.sizeOf3, v3 := Try.zeroValue3, t4 := Try.underlying4, a4 := Try.isAgg4, z4 := Try.sizeOf4, v4 := Try.zeroValue4, t5 := Try.underlying5, a5 := Try.isAgg5, z5 := Try.sizeOf5, v5 := Try.zeroValue5, t9 := Try.underlying9, a9 := Try.isAgg9, z9 := Try.sizeOf9, v9 := Try.zeroValue9, t22 := Try.underlying67, a22 := Try.isAgg67, z22 := Try.sizeOf67, v22 := Try.zeroValue67, t25 := Try.underlying132, a25 := Try.isAgg132, z25 := Try.sizeOf132, v25 := Try.zeroValue132, t39 := Try.underlying163, a39 := Try.isAgg163, z39 := Try.sizeOf163, v39 := Try.zeroValue163, t45 := Try.underlying187, a45 := Try.isAgg187, z45 := Try.sizeOf187, v45 := Try.zeroValue187, t46 := Try.underlying188, a46 := Try.isAgg188, z46 := Try.sizeOf188, v46 := Try.zeroValue188, t50 := Try.underlying192, a50 := Try.isAgg192, z50 := Try.sizeOf192, v50 := Try.zeroValue192, t53 := Try.underlying195, a53 := Try.isAgg195, z53 := Try.sizeOf195, v53 := Try.zeroValue195, t55 := Try.underlying111, a55 := Try.isAgg111, z55 := Try.sizeOf111, v55 := Try.zeroValue111, t66 := Try.underlying206, a66 := Try.isAgg206, z66 := Try.sizeOf206, v66 := Try.zeroValue206, t70 := Try.underlying161, a70 := Try.isAgg161, z70 := Try.sizeOf161, v70 := Try.zeroValue161, t76 := Try.underlying213, a76 := Try.isAgg213, z76 := Try.sizeOf213, v76 := Try.zeroValue213, t77 := Try.underlying82, a77 := Try.isAgg82, z77 := Try.sizeOf82, v77 := Try.zeroValue82 }
end Go.Proofs
namespace Go.Proofs.Ytjflpnahjooffaa.catm
open Go.Ahs
section
open Go.Shelf Go.RowKit Go.Lib Go.Sort
instance : Inhabited Tok := ⟨⟨List.replicate 8 0, rfl⟩⟩
def encV (l : List UInt8) : List Value := l.map fun c => .int .u8 (c.toNat : Int)
def encT (t : Tok) : List Value := encV t.1
def cmpT (a b : Tok) : Int := compareBytes a.1 b.1
theorem isAggT : ∀ w, (isAgg 41).run Try.prog w = .ok true w := Try.isAgg41
theorem sizeT : ∀ w, (Go.sizeOf 41).run Try.prog w = .ok 8 w := Try.sizeOf41
theorem bytesOf_nat (l : List UInt8) : bytesOf (l.map fun c => (c.toNat : Int)) = l := by
 unfold bytesOf
 rw [List.map_map]
 conv => rhs; rw [← List.map_id l]
 apply List.map_congr_left
 intro c _
 simp only [Function.comp, Int.toNat_natCast, id]
 exact UInt8.ofNat_toNat
theorem run_bytes8 (W : World) (b : Nat) (l : List UInt8) (hl : l.length = 8) (h : ∀ i x, l[i]? = some x → W.cell? ⟨b, i, none⟩ = some (.int .u8 (x.toNat : Int))) :
  (Extern.Bytes.bytesOf (.slice (some ⟨b, 0, none⟩) 8 8)).run Try.prog W = .ok ⟨l.toArray⟩ W := by
 have hx := run_loadBytesX (P := Try.prog) W (l.map fun c => (c.toNat : Int)) ⟨b, 0, none⟩ .empty (fun j x hj => by
  rw [List.getElem?_map] at hj
  cases hq : l[j]? with
  | none => rw [hq] at hj; simp at hj
  | some c =>
   rw [hq] at hj
   simp at hj
   subst hj
   have e : (⟨b, 0, none⟩ : Addr).add j = ⟨b, j, none⟩ := by unfold Addr.add; split <;> simp_all
   rw [e]
   exact h j c hq)
 rw [List.length_map, hl, bytesOf_nat] at hx
 have e : (⟨ByteArray.empty.data ++ l.toArray⟩ : ByteArray) = ⟨l.toArray⟩ := by
  apply ByteArray.ext
  show (#[] : Array UInt8) ++ l.toArray = l.toArray
  simp
 rw [e] at hx
 exact hx
theorem run_compare8 (W : World) (b c : Nat) (l m : List UInt8) (hl : l.length = 8) (hm : m.length = 8) (h : ∀ i x, l[i]? = some x → W.cell? ⟨b, i, none⟩ = some (.int .u8 (x.toNat : Int))) (h' : ∀ i x, m[i]? = some x → W.cell? ⟨c, i, none⟩ = some (.int .u8 (x.toNat : Int))) :
  (Extern.BytealgCompare.compare #[.slice (some ⟨b, 0, none⟩) 8 8, .slice (some ⟨c, 0, none⟩) 8 8]).run Try.prog W = .ok (.int .i64 (compareBytes l m)) W := by
 change Sem.run Try.prog (do pure (goInt (Extern.BytealgCompare.cmp (← Extern.Bytes.bytesOf (.slice (some ⟨b, 0, none⟩) 8 8)) (← Extern.Bytes.bytesOf (.slice (some ⟨c, 0, none⟩) 8 8))))) W = _
 simp only [Sem.run_bind, Sem.run_pure, run_bytes8 W b l hl h, run_bytes8 W c m hm h', Result.andThen]
 rw [cmp_eq]
 rfl
set_option maxHeartbeats 1000000 in
theorem compare70 (W : World) (b c : Nat) (l m : List UInt8) (hl : l.length = 8) (hm : m.length = 8) (h : ∀ i x, l[i]? = some x → W.cell? ⟨b, i, none⟩ = some (.int .u8 (x.toNat : Int))) (h' : ∀ i x, m[i]? = some x → W.cell? ⟨c, i, none⟩ = some (.int .u8 (x.toNat : Int))) :
  Calls Try.prog 70 #[.slice (some ⟨b, 0, none⟩) 8 8, .slice (some ⟨c, 0, none⟩) 8 8] W fun e w' => e = .returned (.int .i64 (compareBytes l m)) ∧ w' = W := by
 have hr := run_compare8 W b c l m hl hm h h'
 generalize compareBytes l m = r at hr ⊢
 clear h h'
 go_enter Try.func70, Try.ntmps70
 go_wp2
 rw [run_callFunc_extern Try.func104 (by kernel_rfl) (by kernel_rfl) (by kernel_rfl) (e := Extern.BytealgCompare.compare) (by kernel_rfl), hr]
 simp only [Result.andThen]
 rw [Oper.upon_value]
 go_wp2
 go_ret
 exact ⟨rfl, rfl⟩
set_option maxHeartbeats 1000000 in
theorem closure69 (x y : Tok) (W : World) : Calls Try.prog 69 #[.agg (encT x).toArray, .agg (encT y).toArray] W fun e w' => e = .returned (.int .i64 (cmpT x y)) ∧ ∃ q os', w' = grow (W.drewN q) os' := by
 have hx : (encT x).toArray.size = 8 := by simp [encT, encV, x.2]
 have hy : (encT y).toArray.size = 8 := by simp [encT, encV, y.2]
 have gx : ∀ (i : Nat) (c : UInt8), x.1[i]? = some c → (encT x).toArray[i]? = some (Value.int .u8 (c.toNat : Int)) := fun i c h => by rw [List.getElem?_toArray]; unfold encT encV; rw [List.getElem?_map, h]; rfl
 have gy : ∀ (i : Nat) (c : UInt8), y.1[i]? = some c → (encT y).toArray[i]? = some (Value.int .u8 (c.toNat : Int)) := fun i c h => by rw [List.getElem?_toArray]; unfold encT encV; rw [List.getElem?_map, h]; rfl
 unfold cmpT
 have hc := fun W b c => compare70 W b c x.1 y.1 x.2 y.2
 generalize (encT x).toArray = a at *
 generalize (encT y).toArray = b at *
 generalize x.1 = l at *
 generalize y.1 = m at *
 generalize compareBytes l m = r at *
 go_enter Try.func69, Try.ntmps69
 go_wp2
 have e1 : ((W.alloc (Obj.cells a 41)).alloc (Obj.cells b 41)).heap[W.heap.size]? = some (Obj.cells a 41) := by
  show ((W.heap.push _).push _)[W.heap.size]? = _
  rw [Array.getElem?_push, if_neg (by rw [Array.size_push]; omega), Array.getElem?_push, if_pos rfl]
 have e2 : ((W.alloc (Obj.cells a 41)).alloc (Obj.cells b 41)).heap[W.heap.size + 1]? = some (Obj.cells b 41) := by
  show ((W.heap.push _).push _)[W.heap.size + 1]? = _
  rw [Array.getElem?_push, if_pos (by rw [Array.size_push])]
 have c1 : ∀ n os (i : Nat) (x : UInt8), l[i]? = some x → (grow (((W.alloc (Obj.cells a 41)).alloc (Obj.cells b 41)).drewN n) os).cell? ⟨W.heap.size, i, none⟩ = some (Value.int .u8 (x.toNat : Int)) := fun n os i x hi =>
  cell_grown (by show W.heap.size < ((W.heap.push _).push _).size; rw [Array.size_push, Array.size_push]; omega) (by unfold World.cell?; rw [e1]; exact gx i x hi) n os
 have c2 : ∀ n os (i : Nat) (x : UInt8), m[i]? = some x → (grow (((W.alloc (Obj.cells a 41)).alloc (Obj.cells b 41)).drewN n) os).cell? ⟨W.heap.size + 1, i, none⟩ = some (Value.int .u8 (x.toNat : Int)) := fun n os i x hi =>
  cell_grown (by show W.heap.size + 1 < ((W.heap.push _).push _).size; rw [Array.size_push, Array.size_push]; omega) (by unfold World.cell?; rw [e2]; exact gy i x hi) n os
 have hc2 : ∀ n os, Calls Try.prog 70 #[Value.slice (some ⟨W.heap.size, 0, none⟩) 8 8, Value.slice (some ⟨W.heap.size + 1, 0, none⟩) 8 8] (grow (((W.alloc (Obj.cells a 41)).alloc (Obj.cells b 41)).drewN n) os) fun e w'' => e = .returned (.int .i64 r) ∧ ∃ p : GrownBy, w'' = grow (((W.alloc (Obj.cells a 41)).alloc (Obj.cells b 41)).drewN p.n) p.os := fun n os =>
  (hc _ _ _ (c1 n os) (c2 n os)).mono fun _ _ ⟨he, hw⟩ => ⟨he, ⟨n, os⟩, hw⟩
 clear c1 c2 e1 e2 hc gx gy
 have mixed := Try.checked.mixed
 go_quiet_grown (exact hc2 _ _)
 go_wp2
 go_ret
 exact ⟨rfl, nq, _, by rw [alloc_eq_grow, alloc_eq_grow, grow_grow]; show grow (grow (W.drewN nq) _) osq = _; rw [grow_grow]⟩
theorem cmpLays (blk off size : Nat) (w : World) : Go.Proofs.CmpLays Try.prog 69 #[] encT 8 cmpT blk off size w := fun _ _ _ _ x y => closure69 x y _
theorem cmp_lt : ∀ a b : List UInt8, decide (compareBytes a b < 0) = decide (a < b)
 | [], [] => by simp [compareBytes]
 | [], _ :: _ => by simp [compareBytes]
 | _ :: _, [] => by simp [compareBytes]
 | x :: a, y :: b => by
  have ih := cmp_lt a b
  unfold compareBytes
  by_cases h1 : x < y
  ·simp [h1, List.cons_lt_cons_iff]
  ·by_cases h2 : y < x
   ·have h3 : x ≠ y := fun e => h1 (by rw [e] at h2 ⊢; exact h2)
    simp [h1, h2, h3, List.cons_lt_cons_iff]
   ·have h3 : x = y := UInt8.le_antisymm (UInt8.not_lt.1 h2) (UInt8.not_lt.1 h1)
    subst h3
    simp only [h1, if_false]
    rw [ih]
    simp [List.cons_lt_cons_iff]
theorem lt_of (x y : Tok) : Go.Proofs.ltOf cmpT x y = decide (x.1 < y.1) := cmp_lt x.1 y.1
theorem swo : SWO (Go.Proofs.ltOf cmpT) where
 irrefl x := by rw [lt_of]; exact decide_eq_false (List.lt_irrefl _)
 trans x y z h1 h2 := by
  rw [lt_of] at *
  exact decide_eq_true (List.lt_trans (of_decide_eq_true h1) (of_decide_eq_true h2))
 ntrans x y z h1 h2 := by
  rw [lt_of] at *
  exact decide_eq_false (List.not_lt.2 (List.le_trans (List.not_lt.1 (of_decide_eq_false h2)) (List.not_lt.1 (of_decide_eq_false h1))))
end
section
open Go.Shelf Go.RowKit Go.Lib Go.Sort
def insK (x : Tok) : List Tok → List Tok
 | [] => [x]
 | y :: ys => bif Op.bytesLess y.1 x.1 then y :: insK x ys else x :: y :: ys
def sortK : List Tok → List Tok
 | [] => []
 | x :: xs => insK x (sortK xs)
def LeK (a b : Tok) : Prop := a.1 ≤ b.1
theorem insK_perm (x : Tok) : ∀ ys, (insK x ys).Perm (x :: ys)
 | [] => .refl _
 | y :: ys => by
  unfold insK
  cases Op.bytesLess y.1 x.1 with
  | true => exact ((insK_perm x ys).cons y).trans (List.Perm.swap x y ys)
  | false => exact .refl _
theorem sortK_perm : ∀ ks, (sortK ks).Perm ks
 | [] => .refl _
 | x :: xs => (insK_perm x (sortK xs)).trans ((sortK_perm xs).cons x)
theorem insK_sorted (x : Tok) : ∀ ys : List Tok, ys.Pairwise LeK → (insK x ys).Pairwise LeK
 | [], _ => by simp [insK]
 | y :: ys, h => by
  have h1 := List.pairwise_cons.1 h
  unfold insK
  cases hb : Op.bytesLess y.1 x.1 with
  | true =>
   rw [Go.Proofs.bytesLess_eq] at hb
   have hlt := of_decide_eq_true hb
   refine List.pairwise_cons.2 ⟨fun z hz => ?_, insK_sorted x ys h1.2⟩
   rcases List.mem_cons.1 ((insK_perm x ys).mem_iff.1 hz) with rfl | hz
   ·exact List.le_of_lt hlt
   ·exact h1.1 z hz
  | false =>
   rw [Go.Proofs.bytesLess_eq] at hb
   have hle : x.1 ≤ y.1 := List.not_lt.1 (of_decide_eq_false hb)
   refine List.pairwise_cons.2 ⟨fun z hz => ?_, h⟩
   rcases List.mem_cons.1 hz with rfl | hz
   ·exact hle
   ·exact List.le_trans hle (h1.1 z hz)
theorem sortK_sorted : ∀ ks : List Tok, (sortK ks).Pairwise LeK
 | [] => .nil
 | x :: xs => insK_sorted x _ (sortK_sorted xs)
theorem sortK_unique {xs ks : List Tok} (h : xs.Pairwise LeK) (hp : xs.Perm ks) : xs = sortK ks :=
 List.Perm.eq_of_pairwise (le := LeK) (fun a b _ _ h1 h2 => Subtype.ext (List.le_antisymm h1 h2)) h (sortK_sorted ks) (hp.trans (sortK_perm ks).symm)
theorem sortK_of_perm {xs ks : List Tok} (hp : xs.Perm ks) : sortK xs = sortK ks := sortK_unique (sortK_sorted xs) ((sortK_perm xs).trans hp)
def rowB (ts : List Tok) : List UInt8 := ts.flatMap (·.1)
def encTs (ts : List Tok) : List AVal := encB (rowB ts)
theorem rowB_len : ∀ ts : List Tok, (rowB ts).length = ts.length * 8
 | [] => rfl
 | t :: ts => by
  have ih := rowB_len ts
  unfold rowB at ih ⊢
  rw [List.flatMap_cons, List.length_append, t.2, ih, List.length_cons]; omega
theorem encTs_len (ts : List Tok) : (encTs ts).length = ts.length * 8 := by unfold encTs; rw [encB_len, rowB_len]
def byteA : AVal → Option UInt8
 | .int .u8 (.ofNat m) => bif Nat.ble m 255 then some (UInt8.ofNat m) else none
 | _ => none
def decB : List AVal → Option (List UInt8)
 | [] => some []
 | v :: r => match byteA v with
  | some c => (decB r).map (c :: ·)
  | none => none
def decT (cs : List AVal) : Option Tok := match decB cs with
 | some l => if h : l.length = 8 then some ⟨l, h⟩ else none
 | none => none
def decRows : Nat → List AVal → Option (List Tok)
 | 0, [] => some []
 | 0, _ :: _ => none
 | n + 1, cs => match decT (cs.take 8) with
  | some t => (decRows n (cs.drop 8)).map (t :: ·)
  | none => none
theorem byteA_enc (c : UInt8) : byteA (.int .u8 (c.toNat : Int)) = some c := by
 show (bif Nat.ble c.toNat 255 then some (UInt8.ofNat c.toNat) else none) = _
 have h : Nat.ble c.toNat 255 = true := Nat.ble_eq_true_of_le (by have := c.toNat_lt; omega)
 rw [h, UInt8.ofNat_toNat]; rfl
theorem byteA_some {v : AVal} {c : UInt8} (h : byteA v = some c) : v = .int .u8 (c.toNat : Int) := by
 unfold byteA at h
 split at h
 ·rename_i m
  cases hb : Nat.ble m 255 with
  | false => rw [hb] at h; simp at h
  | true =>
   rw [hb] at h
   simp at h
   subst h
   have := Nat.le_of_ble_eq_true hb
   rw [UInt8.toNat_ofNat', Nat.mod_eq_of_lt (by omega)]
   rfl
 ·simp at h
theorem decB_enc : ∀ l : List UInt8, decB (encB l) = some l
 | [] => rfl
 | c :: l => by
  show (match byteA (.int .u8 (c.toNat : Int)) with | some c => (decB (encB l)).map (c :: ·) | none => none) = _
  rw [byteA_enc, decB_enc l]; rfl
theorem decB_some : ∀ {cs : List AVal} {l : List UInt8}, decB cs = some l → cs = encB l
 | [], l, h => by simp [decB] at h; subst h; rfl
 | v :: r, l, h => by
  unfold decB at h
  split at h
  ·rename_i c hc
   rw [Option.map_eq_some_iff] at h
   obtain ⟨l', h1, rfl⟩ := h
   rw [byteA_some hc, decB_some h1]; rfl
  ·simp at h
theorem decT_enc (t : Tok) : decT (encB t.1) = some t := by
 unfold decT
 rw [decB_enc]
 simp only [t.2, dif_pos]
theorem decT_some {cs : List AVal} {t : Tok} (h : decT cs = some t) : cs = encB t.1 := by
 unfold decT at h
 split at h
 ·rename_i l hl
  split at h
  ·simp at h; subst h; exact decB_some hl
  ·simp at h
 ·simp at h
theorem decRows_enc : ∀ ts : List Tok, decRows ts.length (encTs ts) = some ts
 | [] => rfl
 | t :: ts => by
  have e : encTs (t :: ts) = encB t.1 ++ encTs ts := by unfold encTs rowB; rw [List.flatMap_cons, encB_app]
  have hl : (encB t.1).length = 8 := by rw [encB_len, t.2]
  have e1 : (encB t.1 ++ encTs ts).take 8 = encB t.1 := List.take_left' hl
  have e2 : (encB t.1 ++ encTs ts).drop 8 = encTs ts := List.drop_left' hl
  rw [List.length_cons, e]
  unfold decRows
  rw [e1, decT_enc, e2]
  simp only
  rw [decRows_enc ts]; rfl
theorem decRows_some : ∀ {n : Nat} {cs : List AVal} {ts : List Tok}, decRows n cs = some ts → ts.length = n ∧ cs = encTs ts
 | 0, [], ts, h => by simp [decRows] at h; subst h; exact ⟨rfl, rfl⟩
 | 0, _ :: _, ts, h => by simp [decRows] at h
 | n + 1, cs, ts, h => by
  unfold decRows at h
  split at h
  ·rename_i t ht
   rw [Option.map_eq_some_iff] at h
   obtain ⟨ts', h1, rfl⟩ := h
   obtain ⟨h2, h3⟩ := decRows_some h1
   refine ⟨by rw [List.length_cons, h2], ?_⟩
   have e : encTs (t :: ts') = encB t.1 ++ encTs ts' := by unfold encTs rowB; rw [List.flatMap_cons, encB_app]
   rw [e, ← h3, ← decT_some ht, List.take_append_drop]
  ·simp at h
def gSort : Nat → List AVal → Heap → Option (AVal × Heap) := fun lim args H =>
 match args with
 | [.sl none 0 (.ex 0), .fn 69 [] []] => some (.tup [], H)
 | [.sl (some (b, 0)) n c, .fn 69 [] []] => match H.cells b with
  | some cs => match decRows n cs with
   | some ts => if (Nat.ble lim b && Nat.ble n 1000000000 && Nat.ble 1 n) = true then some (.tup [], H.set b (.cells (encTs (sortK ts)))) else none
   | none => none
  | none => none
 | _ => none
theorem flat_at : ∀ (ts : List Tok) (t : Nat) (c : UInt8), (rowB ts)[t]? = some c → ∃ x, ts[t / 8]? = some x ∧ x.1[t % 8]? = some c
 | [], t, c, h => by simp [rowB] at h
 | x :: ts, t, c, h => by
  have e : rowB (x :: ts) = x.1 ++ rowB ts := by unfold rowB; rw [List.flatMap_cons]
  rw [e] at h
  by_cases ht : t < 8
  ·rw [List.getElem?_append_left (by rw [x.2]; exact ht)] at h
   refine ⟨x, ?_, ?_⟩
   ·rw [Nat.div_eq_of_lt ht]; rfl
   ·rw [Nat.mod_eq_of_lt ht]; exact h
  ·rw [List.getElem?_append_right (by rw [x.2]; omega), x.2] at h
   obtain ⟨y, h1, h2⟩ := flat_at ts (t - 8) c h
   refine ⟨y, ?_, ?_⟩
   ·rw [show t / 8 = (t - 8) / 8 + 1 by omega]; exact h1
   ·rw [show t % 8 = (t - 8) % 8 by omega]; exact h2
theorem flatK_at (ts : List Tok) {t : Nat} {c : UInt8} (h : (rowB ts)[t]? = some c) : (flatK encT 8 ts.toArray)[t]! = Value.int .u8 (c.toNat : Int) := by
 obtain ⟨x, h1, h2⟩ := flat_at ts t c h
 have hlt : t < ts.toArray.size * 8 := by
  have := (List.getElem?_eq_some_iff.1 h).1
  rw [rowB_len] at this
  simpa using this
 rw [get_flatK _ _ _ _ hlt]
 have e1 : ts.toArray[t / 8]! = x := by
  obtain ⟨q1, q2⟩ := List.getElem?_eq_some_iff.1 h1
  rw [getElem!_pos ts.toArray (t / 8) (by simpa using q1)]
  simpa using q2
 rw [e1]
 have e2 : (encT x)[t % 8]? = some (Value.int .u8 (c.toNat : Int)) := by
  unfold encT encV
  rw [List.getElem?_map, h2]; rfl
 obtain ⟨q1, q2⟩ := List.getElem?_eq_some_iff.1 e2
 rw [getElem!_pos (encT x) (t % 8) q1]
 exact q2
theorem encTs_at (ts : List Tok) {t : Nat} {v : AVal} (h : (encTs ts)[t]? = some v) : ∃ c, (rowB ts)[t]? = some c ∧ v = .int .u8 (c.toNat : Int) := by
 unfold encTs encB at h
 rw [List.getElem?_map, Option.map_eq_some_iff] at h
 obtain ⟨c, h1, h2⟩ := h
 exact ⟨c, h1, h2.symm⟩
theorem put_size (off : Nat) (F c : Array Value) : (putCells id off F c).size = c.size := by unfold putCells; simp
theorem put_at (off : Nat) (F c : Array Value) {i : Nat} (hi : off + i < c.size) (hF : i < F.size) : (putCells id off F c)[off + i]? = some F[i]! := by
 unfold putCells
 rw [Array.getElem?_mapIdx, Array.getElem?_eq_getElem hi, Option.map_some, if_pos ⟨by omega, by omega⟩, show off + i - off = i by omega]
 rfl
set_option maxHeartbeats 1000000 in
theorem sort_ok : PrimOK Try.prog 102 gSort where
 keeps := fun lim args H v H' hl h => by
  unfold gSort at h
  split at h <;> try (simp at h; done)
  ·simp only [Option.some.injEq, Prod.mk.injEq] at h
   obtain ⟨_, rfl⟩ := h
   exact ⟨Nat.le_refl _, fun _ _ => rfl⟩
  split at h <;> try (simp at h; done)
  split at h <;> try (simp at h; done)
  split at h <;> try (simp at h; done)
  rename_i hc
  simp only [Option.some.injEq, Prod.mk.injEq] at h
  obtain ⟨_, rfl⟩ := h
  simp only [Bool.and_eq_true, Nat.ble_eq] at hc
  exact ⟨by rw [Heap.next_set]; exact Nat.le_refl _, fun b hb => Heap.get_set_other _ _ _ _ (by omega)⟩
 fn := ⟨Try.f102, Try.func102, by kernel_rfl, by kernel_rfl⟩
 calls := fun n0 lim args H v H' h ρ w args' hl hlim hfr hr ha => by
  unfold gSort at h
  split at h <;> try (simp at h; done)
  ·simp only [Option.some.injEq, Prod.mk.injEq] at h
   obtain ⟨rfl, rfl⟩ := h
   obtain ⟨x', y', rfl, hx⟩ : ∃ x' y', args' = #[x', y'] ∧ VRel ρ (.sl none 0 (.ex 0)) x' := by
    match hh : args'.toList, ha with
    | [], ha => have := ha.1; simp at this
    | [_], ha => have := ha.1; simp at this
    | [x, y], ha =>
     refine ⟨x, y, ?_, ha.head⟩
     have : args' = args'.toList.toArray := by simp
     rw [this, hh]
    | _ :: _ :: _ :: _, ha => have := ha.1; simp at this
   cases hx
   refine Calls.mono (AnyF.slices_SortFunc_none Try.laysSort none 0 y' w) ?_
   rintro e w' ⟨rfl, rfl⟩
   exact ⟨_, ρ, rfl, .tup rfl (fun i v v' q _ => by simp at q), Post.refl hr⟩
  rename_i b n cp
  split at h <;> try (simp at h; done)
  rename_i cs hcs
  split at h <;> try (simp at h; done)
  rename_i ts hts
  split at h <;> try (simp at h; done)
  rename_i hc
  simp only [Option.some.injEq, Prod.mk.injEq] at h
  obtain ⟨rfl, rfl⟩ := h
  simp only [Bool.and_eq_true, Nat.ble_eq] at hc
  obtain ⟨htn, rfl⟩ := decRows_some hts
  obtain ⟨x', y', rfl, hx, hy⟩ : ∃ x' y', args' = #[x', y'] ∧ VRel ρ (.sl (some (b, 0)) n cp) x' ∧ VRel ρ (.fn 69 [] []) y' := by
   match hh : args'.toList, ha with
   | [], ha => have := ha.1; simp at this
   | [_], ha => have := ha.1; simp at this
   | [x, y], ha =>
    refine ⟨x, y, ?_, ha.head, ha.tail.head⟩
    have : args' = args'.toList.toArray := by simp
    rw [this, hh]
   | _ :: _ :: _ :: _, ha => have := ha.1; simp at this
  obtain rfl : y' = .func (.func 69) #[] #[] := by
   cases hy with
   | fn h1 h2 _ _ =>
    rename_i us bs _ _
    have e1 : us = #[] := Array.eq_empty_of_size_eq_zero (by simpa using h1.symm)
    have e2 : bs = #[] := Array.eq_empty_of_size_eq_zero (by simpa using h2.symm)
    rw [e1, e2]
  obtain ⟨L, k, hL, rfl, hnk⟩ : ∃ (L : Ahs.Loc) (k : Nat), ρ b = some L ∧ x' = .slice (some ⟨L.blk, L.d + 0, none⟩) n k ∧ n ≤ k := by
   cases hx with
   | slX hb hcp => exact ⟨_, _, hb, rfl, hcp⟩
   | slO hb hcp _ _ => exact ⟨_, _, hb, rfl, hcp⟩
   | slE _ _ => omega
   | slU hb hcp => exact ⟨_, _, hb, rfl, hcp⟩
   | slF _ => omega
   | slG _ => omega
  rw [Nat.add_zero]
  obtain ⟨c, e, fr, g1, g2, g3, g4, g5⟩ := hr.cells hL hcs
  have hlb : lim ≤ b := hc.1.1
  have hfree := g3 (by omega)
  rw [encTs_len] at g4 g5
  have hsz : ts.toArray.size = n := by simpa using htn
  have hH : HoldsK encT 8 w L.blk L.d ts.toArray := by
   intro j hj
   rw [size_flatK] at hj
   have hj' : j < (rowB ts).length := by rw [rowB_len]; simpa using hj
   have hget := List.getElem?_eq_getElem hj'
   rw [flatK_at ts hget]
   have hA : (encTs ts)[j]? = some (.int .u8 (((rowB ts)[j].toNat : Nat) : Int)) := by
    unfold encTs encB
    rw [List.getElem?_map, hget]; rfl
   obtain ⟨v', q1, q2⟩ := g5.get hA
   have hjj : j < ts.length * 8 := by rw [← rowB_len]; exact hj'
   rw [List.getElem?_take, if_pos hjj, List.getElem?_drop] at q1
   cases q2
   refine ⟨?_, ?_⟩
   ·show w.cell? ⟨L.blk, L.d + j, none⟩ = _
    rw [Lib.cell_of_heap g1]
    simpa using q1
   ·have hsz2 : L.d + j < c.size := by omega
    have := hfree (L.d + j) hsz2
    unfold World.frozen?
    simp only [g1]
    by_cases q : fr.1 ≤ L.d + j ∧ L.d + j < fr.2
    ·exact absurd q this
    ·simp only [Bool.and_eq_false_iff, decide_eq_false_iff_not]
     omega
  have hcon := AnyQ.slices_SortFunc Try.laysSort 8 isAggT sizeT encT (fun x => by unfold encT encV; rw [List.length_map, x.2]) (fun x v hv => by
    unfold encT encV at hv
    obtain ⟨c, _, rfl⟩ := List.mem_map.1 hv
    rfl) cmpT swo 69 #[] L.blk L.d k ts.toArray w (enters_of Try.func69 (by kernel_rfl) rfl) (cmpLays _ _ _ w) hH (hr.dom b L hL) (by rw [hsz]; omega)
  rw [hsz] at hcon
  refine Calls.mono hcon ?_
  rintro e' w' ⟨rfl, d', m, os, hperm, hsorted, rfl⟩
  obtain ⟨p1, _, p3⟩ := hperm
  rw [hsz] at p1
  have hdl : d'.toList.Perm ts := by
   have h1 : (d'.extract 0 n) = d' := by rw [← p1]; exact Array.extract_size
   have h2 : (ts.toArray.extract 0 n) = ts.toArray := by rw [← hsz]; exact Array.extract_size
   rw [h1, h2] at p3
   simpa using p3
  have hds : d'.toList = sortK ts := by
   refine sortK_unique ?_ hdl
   rw [List.pairwise_iff_getElem]
   intro i j hi hj hij
   simp only [Array.length_toList] at hi hj
   have := hsorted i j (Nat.zero_le _) hij (by omega)
   rw [lt_of, getElem!_pos d' j hj, getElem!_pos d' i hi] at this
   simp only [Array.getElem_toList]
   exact List.not_lt.1 (of_decide_eq_false this)
  have hd' : d' = (sortK ts).toArray := by rw [← hds]
  subst hd'
  have hln : (sortK ts).length = n := by simpa using p1
  have hw1 : (putRowK encT 8 (Sort.ahead w m) L.blk L.d (sortK ts).toArray).heap[L.blk]? = some (.cells (putCells id L.d (flatK encT 8 (sortK ts).toArray) c) e fr) := by
   show (w.heap.modify L.blk (onCells _))[L.blk]? = _
   rw [Array.getElem?_modify, if_pos rfl, g1]; rfl
  have P1 : Post Try.prog n0 lim ρ H w ρ (H.set b (.cells (encTs (sortK ts)))) (putRowK encT 8 (Sort.ahead w m) L.blk L.d (sortK ts).toArray) := by
   refine hr.write (c' := putCells id L.d (flatK encT 8 (sortK ts).toArray) c) hl hlb hL hcs (by rw [encTs_len, encTs_len, hln, htn]) g1 ?_ ?_ hw1 (put_size _ _ _) ?_ ⟨rfl, rfl, rfl⟩
   ·show (w.heap.modify L.blk _).size = _
    rw [Array.size_modify]
   ·intro r hne
    show (w.heap.modify L.blk _)[r]? = _
    rw [Array.getElem?_modify, if_neg (Ne.symm hne)]
   ·have hcs' : L.d + (encTs (sortK ts)).length ≤ (putCells id L.d (flatK encT 8 (sortK ts).toArray) c).size := by rw [encTs_len, put_size, hln]; omega
    refine ⟨?_, fun i v v' q1 q2 => ?_⟩
    ·have hq : (putCells id L.d (flatK encT 8 (sortK ts).toArray) c).toList.length = (putCells id L.d (flatK encT 8 (sortK ts).toArray) c).size := Array.length_toList
     rw [List.length_take, List.length_drop, hq]; omega
    ·obtain ⟨ch, r1, rfl⟩ := encTs_at _ q1
     have hi : i < (encTs (sortK ts)).length := (List.getElem?_eq_some_iff.1 q1).1
     rw [List.getElem?_take, if_pos hi, List.getElem?_drop, Array.getElem?_toList, put_at _ _ _ (by rw [put_size] at hcs'; omega) (by rw [size_flatK]; rw [encTs_len] at hi; simpa using hi), flatK_at _ r1] at q2
     simp only [Option.some.injEq] at q2
     subst q2
     exact .int _ _
  have P2 : Post Try.prog n0 lim ρ (H.set b (.cells (encTs (sortK ts)))) (putRowK encT 8 (Sort.ahead w m) L.blk L.d (sortK ts).toArray) ρ (H.set b (.cells (encTs (sortK ts)))) (sortWorldK encT 8 w L.blk L.d m (sortK ts).toArray os) := by
   refine Post.below P1.rel ⟨rfl, rfl, rfl, ?_, fun r hr' => ?_⟩
   ·show _ ≤ (grow _ os).heap.size
    rw [size_grow]; omega
   ·show (_ ++ os)[r]? = _
    rw [Array.getElem?_append_left hr']
  refine ⟨_, ρ, rfl, .tup rfl (fun i v v' q _ => by simp at q), P1.trans (Nat.le_refl _) (fun b' h1 h2 => ?_) P2⟩
  rw [Heap.next_set] at h2
  omega
end
def apS : FuncId → Option AFn := over [(102, .prim gSort)] ap
theorem apS_ok : ∀ f af, apS f = some af → FnOK Try.prog f af := over_ok ⟨sort_ok, trivial⟩ ap_ok
theorem sortS {n lim : Nat} {args : List AVal} {H : Heap} : Ahs.runT apS (n + 1) lim (.fn 102) args H = gSort lim args H := by
 have h : apS 102 = some (.prim gSort) := by kernel_rfl
 simp only [Ahs.runT, h]
def dpk : List (Nat × AFunc) := [(67, f67), (101, f101), (117, f117), (103, f103)]
theorem dpkOK : DpOK Try.prog fun f => dpk.lookup f :=
 dp_ok (l := dpk) ⟨⟨c67, by kernel_rfl⟩, ⟨c101, by kernel_rfl⟩, ⟨c117, by kernel_rfl⟩, ⟨c103, by kernel_rfl⟩, trivial⟩
abbrev dpf : FuncId → Option AFunc := fun f => dpk.lookup f
def dTok : AVal → Option Tok
 | .agg cs => decT cs
 | _ => none
def isTokE (e : AVal × AVal) : Bool := (dTok e.1).isSome
def keyE (e : AVal × AVal) : Tok := (dTok e.1).getD ⟨List.replicate 8 0, rfl⟩
def keysE (es : List (AVal × AVal)) : List Tok := es.map keyE
theorem keyE_eq {e : AVal × AVal} (h : isTokE e = true) : e.1 = .agg (encB (keyE e).1) := by
 obtain ⟨k, v⟩ := e
 unfold isTokE at h
 unfold keyE
 cases k <;> simp [dTok] at h
 rename_i cs
 show AVal.agg cs = .agg (encB ((decT cs).getD _).1)
 cases hd : decT cs with
 | none => rw [hd] at h; simp at h
 | some t => rw [decT_some hd]; rfl
def g67 (_ : Nat) (args : List AVal) (H : Heap) : Option (AVal × Heap) :=
 match args with
 | [.fn 103 [] [.ptr (some (bx, 0))], .fn 69 [] []] =>
  match aload H none (.ptr (some (bx, 0))) with
  | some m => match mapEs H m with
   | some es => if (es.all isTokE && Nat.ble es.length 1000000) = true then (match es with
     | [] => some (.sl none 0 (.ex 0), pushDead 2 H)
     | e :: es => some (.sl (some (H.next + (4 * (e :: es).length + 1), 0)) (e :: es).length (.op 8 0), (pushDead (4 * (e :: es).length + 1) H).push (.cells (encTs (sortK (keysE (e :: es))))))) else none
   | none => none
  | none => none
 | _ => none
abbrev zT8 : List AVal := [(.int .u8 0), (.int .u8 0), (.int .u8 0), (.int .u8 0), (.int .u8 0), (.int .u8 0), (.int .u8 0), (.int .u8 0)]
def asg117 : ACode := match f117.body with
 | .seq _ (.seq (.seq _ (.block _ (.ranges _ _ a _))) _) => a
 | _ => .skip
def body117 : ACode := match f117.body with
 | .seq _ (.seq (.seq _ (.block _ (.ranges _ _ _ b))) _) => b
 | _ => .skip
def Sh117 (bx : Nat) (q : AVal) (T : List AVal) : Prop := ∃ t0 t4 t5 t6 t7 t8 t9 t10 t11 t12 : AVal, T = [t0, q, .ptr (some (bx, 0)), .sl none 0 (.ex 0), t4, t5, t6, t7, t8, t9, t10, t11, t12]
def slT (acc : List Tok) (bl : Nat) : AVal := if acc = [] then .sl none 0 (.ex 0) else .sl (some (bl, 0)) acc.length (.op 8 0)
theorem slT_one (acc : List Tok) (bl : Nat) : (slT acc bl).one = true ∧ (slT acc bl).cells = [slT acc bl] := by
 unfold slT; split <;> exact ⟨rfl, rfl⟩
theorem encTs_app (acc : List Tok) (t : Tok) : encTs (acc ++ [t]) = encTs acc ++ encB t.1 := by
 unfold encTs rowB
 rw [List.flatMap_append, encB_app]
 simp
theorem encTs_one (acc : List Tok) : (encTs acc).all (·.one) = true := encB_one _
theorem append_tok {lim : Nat} {H : Heap} {acc : List Tok} {bl b1 : Nat} {t : Tok} (hacc : acc.length < 1000000) (hbl : acc ≠ [] → H.cells bl = some (encTs acc) ∧ lim ≤ bl) (hb : H.cells b1 = some (encB t.1)) :
  ∃ H', aappend lim H zT8 8 false (slT acc bl) (.sl (some (b1, 0)) 1 (.ex 1)) = some (slT (acc ++ [t]) H.next, H') ∧ H'.next = H.next + 1 ∧ H'.cells H.next = some (encTs (acc ++ [t])) ∧ ∀ c, c < H.next → (acc ≠ [] → c ≠ bl) → H'.get c = H.get c := by
 have hl : (encB t.1).length = 8 := by rw [encB_len, t.2]
 have src : source H zT8.length (.sl (some (b1, 0)) 1 (.ex 1)) = some (1, encB t.1) := by
  simp only [source, hb, Option.bind_eq_bind, Option.bind_some, Ahs.cut]
  simp [hl, List.take_of_length_le]
 rw [aappend_eq (m := 1) (new := encB t.1) src (encB_one _) (by decide)]
 by_cases h0 : acc = []
 ·subst h0
  refine ⟨H.push (.cells (encB t.1)), ?_, Heap.next_push _ _, ?_, fun c hc _ => Heap.get_push_old _ _ _ (by omega)⟩
  ·rfl
  ·rw [cells_push_new]
   rw [encTs_app]; rfl
 ·obtain ⟨g1, g2⟩ := hbl h0
  have hlt := Heap.cells_lt g1
  refine ⟨(H.set bl .dead).push (.cells (encTs acc ++ encB t.1)), ?_, by rw [Heap.next_push, Heap.next_set], ?_, fun c hc hn => ?_⟩
  ·have e1 : slT acc bl = .sl (some (bl, 0)) acc.length (.op 8 0) := by unfold slT; rw [if_neg h0]
   have e2 : slT (acc ++ [t]) H.next = .sl (some (H.next, 0)) (acc.length + 1) (.op 8 0) := by unfold slT; rw [if_neg (by simp), List.length_append]; rfl
   rw [e1, e2]
   simp only
   rw [if_neg (by decide), if_neg (by unfold room; omega), g1]
   simp only [Option.bind_eq_bind, Option.bind_some, encTs_len]
   have hz : zT8.length = 8 := rfl
   rw [hz, if_pos ⟨g2, rfl⟩, if_neg (by omega), if_pos ⟨by omega, encTs_one acc⟩, List.drop_zero]
  ·have := cells_push_new (H.set bl .dead) (encTs acc ++ encB t.1)
   rw [Heap.next_set] at this
   rw [encTs_app]
   exact this
  ·rw [Heap.get_push_old _ _ _ (by rw [Heap.next_set]; omega), Heap.get_set_other _ _ _ _ (hn h0)]
theorem round117 {n lim b bx bl : Nat} {H : Heap} {T : List AVal} {acc : List Tok} {t : Tok} (hb : H.get b = some (.loop ⟨.ready, none, T, [7], asg117, body117⟩)) (hbl : lim ≤ b) (hx : H.cells bx = some [slT acc bl]) (hxl : lim ≤ bx)
  (hacc : acc.length < 1000000) (hcl : acc ≠ [] → H.cells bl = some (encTs acc) ∧ lim ≤ bl ∧ bl ≠ bx) (hln : lim ≤ H.next)
  (hT : ∃ t0 t1 t3 t4 t5 t6 t7 t8 t9 t10 t11 t12 : AVal, T = [t0, t1, .ptr (some (bx, 0)), t3, t4, t5, t6, t7, t8, t9, t10, t11, t12]) :
  ∃ H', Ahs.runT apS (n + 1) lim (.yl b) [.agg (encB t.1)] H = some (.bool true, H') ∧ H'.next = H.next + 3 ∧ H'.get b = some (.loop ⟨.ready, none, T, [7], asg117, body117⟩) ∧ H'.cells bx = some [slT (acc ++ [t]) (H.next + 2)] ∧ H'.cells (H.next + 2) = some (encTs (acc ++ [t])) ∧
   ∀ c, c < H.next → c ≠ b → c ≠ bx → (acc ≠ [] → c ≠ bl) → H'.get c = H.get c := by
 obtain ⟨t0, t1, t3, t4, t5, t6, t7, t8, t9, t10, t11, t12, rfl⟩ := hT
 have hbn := Heap.get_lt hb
 have hxn := Heap.cells_lt hx
 have hbx : b ≠ bx := by
  intro e; subst e
  rw [Heap.cells_eq] at hx; rw [hb] at hx; simp at hx
 have hbbl : acc ≠ [] → b ≠ bl := by
  intro h0 e; subst e
  have := (hcl h0).1
  rw [Heap.cells_eq] at this; rw [hb] at this; simp at this
 have h8 : (encB t.1).length = 8 := by rw [encB_len, t.2]
 have hcs : (encB t.1).all (·.one) = true := encB_one _
 obtain ⟨hso, hsc⟩ := slT_one acc bl
 generalize hcsd : encB t.1 = cs at *
 have st1 : astore lim (H.push (.cells zT8)) 8 (.ptr (some (H.next, 0))) (.agg cs) = some (H.push (.cells cs)) := astore_new (x := .agg cs) (by omega) h8 rfl hcs
 have g1 : (H.push (.cells cs)).get b = some (.loop ⟨.ready, none, [t0, t1, .ptr (some (bx, 0)), t3, t4, t5, t6, t7, t8, t9, t10, t11, t12], [7], asg117, body117⟩) := by rw [Heap.get_push_old _ _ _ (by omega)]; exact hb
 obtain ⟨H2, hH2⟩ : ∃ H2, H2 = (H.push (.cells cs)).set b (.loop ⟨.busy, none, [t0, t1, .ptr (some (bx, 0)), t3, t4, t5, t6, t7, t8, t9, t10, t11, t12], [7], asg117, body117⟩) := ⟨_, rfl⟩
 have n2 : H2.next = H.next + 1 := by rw [hH2, Heap.next_set, Heap.next_push]
 have x2 : H2.cells bx = some [slT acc bl] := by rw [hH2]; exact cells_set_other (cells_push_old hx) (by omega)
 have c2 : H2.cells H.next = some cs := by rw [hH2]; exact cells_set_other (cells_push_new H cs) (by omega)
 have l2 : aload H2 none (.ptr (some (bx, 0))) = some (slT acc bl) := by rw [aload_one x2]; rfl
 have l3 : aload H2 (some 8) (.ptr (some (H.next, 0))) = some (.agg cs) := by
  rw [aload_agg c2]
  simp only [Ahs.cut, Nat.zero_add, h8, Nat.le_refl, if_true, List.drop_zero, Option.map_some]
  rw [List.take_of_length_le (by omega)]
 have p8 : put zT8 0 cs = cs := put_all (by rw [h8]; rfl)
 have n3 : (H2.push (.cells cs)).next = H.next + 2 := by rw [Heap.next_push, n2]
 have cl3 : acc ≠ [] → (H2.push (.cells cs)).cells bl = some (encTs acc) ∧ lim ≤ bl := fun h0 => by
  have hq := (hcl h0).1
  have hqn := Heap.cells_lt hq
  refine ⟨cells_push_old ?_, (hcl h0).2.1⟩
  rw [hH2]
  exact cells_set_other (cells_push_old hq) (Ne.symm (hbbl h0))
 obtain ⟨H4, ap1, n4, c4, k4⟩ := append_tok (lim := lim) (H := H2.push (.cells cs)) (acc := acc) (bl := bl) (b1 := H2.next) (t := t) hacc cl3 (by rw [hcsd]; exact cells_push_new H2 cs)
 rw [n3] at ap1 n4 c4 k4
 have x4 : H4.cells bx = some [slT acc bl] := by
  rw [Heap.cells_eq, k4 bx (by omega) (fun h0 => Ne.symm (hcl h0).2.2), ← Heap.cells_eq]
  exact cells_push_old x2
 obtain ⟨hno, hnc⟩ := slT_one (acc ++ [t]) (H.next + 2)
 have st4 : astore lim H4 1 (.ptr (some (bx, 0))) (slT (acc ++ [t]) (H.next + 2)) = some (H4.set bx (.cells [slT (acc ++ [t]) (H.next + 2)])) := by
  rw [astore_at (n := 1) (o := 0) (x := slT (acc ++ [t]) (H.next + 2)) x4 hxl (by rw [hnc]; rfl) (by show 0 + 1 ≤ 1; omega) (by rw [hnc]; simp [hno])]
  rw [hnc]; rfl
 have g5 : (H4.set bx (.cells [slT (acc ++ [t]) (H.next + 2)])).get b = some (.loop ⟨.busy, none, [t0, t1, .ptr (some (bx, 0)), t3, t4, t5, t6, t7, t8, t9, t10, t11, t12], [7], asg117, body117⟩) := by
  rw [Heap.get_set_other _ _ _ _ hbx, k4 b (by omega) hbbl, Heap.get_push_old _ _ _ (by omega), hH2, Heap.get_set_same _ _ _ (by rw [Heap.next_push]; omega)]
 obtain ⟨H5, hH5⟩ : ∃ H5, H5 = H4.set bx (.cells [slT (acc ++ [t]) (H.next + 2)]) := ⟨_, rfl⟩
 have n5 : H5.next = H.next + 3 := by rw [hH5, Heap.next_set, n4]
 have bs : Ahs.step (Ahs.runT apS n) lim (St.ev [t0, t1, .ptr (some (bx, 0)), t3, t4, .ptr (some (H.next, 0)), t6, .agg cs, slT acc bl, .agg cs, t10, t11, t12]) H2 (.buildSlice zT8 1 [⟨0, ⟨8, (.tmp 9)⟩⟩]) = some (.sl (some (H2.next, 0)) 1 (.ex 1), H2.push (.cells cs)) := by
  show (fillAll (St.ev [t0, t1, .ptr (some (bx, 0)), t3, t4, .ptr (some (H.next, 0)), t6, .agg cs, slT acc bl, .agg cs, t10, t11, t12]) zT8 [⟨0, ⟨8, (.tmp 9)⟩⟩]).map _ = _
  have : fillAll (St.ev [t0, t1, .ptr (some (bx, 0)), t3, t4, .ptr (some (H.next, 0)), t6, .agg cs, slT acc bl, .agg cs, t10, t11, t12]) zT8 [⟨0, ⟨8, (.tmp 9)⟩⟩] = some cs := by
   have hev : St.ev [t0, t1, .ptr (some (bx, 0)), t3, t4, .ptr (some (H.next, 0)), t6, .agg cs, slT acc bl, .agg cs, t10, t11, t12] (.tmp 9) = .agg cs := rfl
   simp only [fillAll, hev, AVal.cells]
   rw [if_pos ⟨h8, by decide⟩, p8]
  rw [this]; rfl
 have hrun : Ahs.runT apS (n + 1) lim (.yl b) [.agg cs] H = some (.bool true, H5.set b (.loop ⟨.ready, none, [t0, t1, .ptr (some (bx, 0)), t3, t4, t5, t6, t7, t8, t9, t10, t11, t12], [7], asg117, body117⟩)) := by
  show roundF (exec (Ahs.runT apS n) lim n) lim b [.agg cs] H = _
  rw [← hH5] at st4 g5
  have e1 : exec (Ahs.runT apS n) lim n asg117 ⟨putAll [t0, t1, .ptr (some (bx, 0)), t3, t4, t5, t6, t7, t8, t9, t10, t11, t12] [7] [.agg cs], H⟩ = some (.norm, ⟨[t0, t1, .ptr (some (bx, 0)), t3, t4, .ptr (some (H.next, 0)), t6, .agg cs, t8, t9, t10, t11, t12], H.push (.cells cs)⟩) := by
   refine x_reg (x_1 rfl rfl rfl rfl (x_1 (v := und) (H' := H.push (.cells cs)) rfl rfl rfl ?_ x_nil))
   show (astore lim (H.push (.cells zT8)) 8 (.ptr (some (H.next, 0))) (.agg cs)).map _ = _
   rw [st1]; rfl
  have e2 : exec (Ahs.runT apS n) lim n body117 ⟨[t0, t1, .ptr (some (bx, 0)), t3, t4, .ptr (some (H.next, 0)), t6, .agg cs, t8, t9, t10, t11, t12], H2⟩ = some (.norm, ⟨[t0, t1, .ptr (some (bx, 0)), t3, t4, .ptr (some (H.next, 0)), t6, .agg cs, slT acc bl, .agg cs, .sl (some (H2.next, 0)) 1 (.ex 1), slT (acc ++ [t]) (H.next + 2), t12], H5⟩) := by
   refine x_block (x_reg (x_v rfl rfl rfl _ rfl l2 (x_v rfl rfl rfl _ rfl l3 (x_1 rfl rfl rfl bs (x_1 rfl rfl rfl ap1 (x_1 (v := und) (H' := H5) rfl rfl rfl ?_ x_nil))))))
   show (astore lim H4 1 (.ptr (some (bx, 0))) (slT (acc ++ [t]) (H.next + 2))).map _ = _
   rw [st4]; rfl
  rw [hH2] at e2
  exact x_round hb hbl rfl e1 g1 e2 g5
 refine ⟨_, hrun, by rw [Heap.next_set, n5], Heap.get_set_same _ _ _ (by omega), ?_, ?_, ?_⟩
 ·refine cells_set_other ?_ (by omega)
  rw [hH5]
  exact cells_set_same (by rw [n4]; omega)
 ·refine cells_set_other ?_ (by omega)
  rw [hH5]
  exact cells_set_other c4 (by omega)
 ·intro c hc hcb hcx hcl'
  rw [Heap.get_set_other _ _ _ _ hcb, hH5, Heap.get_set_other _ _ _ _ hcx, k4 c (by omega) hcl', Heap.get_push_old _ _ _ (by omega), hH2, Heap.get_set_other _ _ _ _ hcb, Heap.get_push_old _ _ _ (by omega)]
def body103 : ACode := match f103.body with
 | .seq _ (.block _ (.loop b)) => b
 | _ => .skip
def Sh103 (b bx0 r : Nat) (T : List AVal) : Prop := ∃ t2 t3 t4 t6 t7 t8 t9 t10 t11 t12 t13 : AVal, T = [.yl b, .ptr (some (bx0, 0)), t2, t3, t4, .itr r, t6, t7, t8, t9, t10, t11, t12, t13]
section
variable {lim0 lim : Nat}
structure ColAt (b bx : Nat) (T0 : List AVal) (H0 H : Heap) (acc : List Tok) : Prop where
 next : H.next = H0.next + 4 * acc.length
 loop : H.get b = some (.loop ⟨.ready, none, T0, [7], asg117, body117⟩)
 box : H.cells bx = some [slT acc (H.next - 1)]
 row : acc ≠ [] → H.cells (H.next - 1) = some (encTs acc)
 old : ∀ c, c < H0.next → c ≠ b → c ≠ bx → H.get c = H0.get c
theorem keys_loop {RP : CallerP} {K : KP} {n : Nat} {H0 : Heap} {b bx bx0 r : Nat} {T0 : List AVal} (hl : lim ≤ H0.next) (hb : b < H0.next) (hbl : lim ≤ b) (hx : bx < H0.next) (hxl : lim ≤ bx)
  (hT0 : ∃ t0 t1 t3 t4 t5 t6 t7 t8 t9 t10 t11 t12 : AVal, T0 = [t0, t1, .ptr (some (bx, 0)), t3, t4, t5, t6, t7, t8, t9, t10, t11, t12]) :
  ∀ (j : Nat) (left : List (AVal × AVal)) (acc : List Tok) (H : Heap) (T : List AVal) (c0 : Option (AVal × AVal)) (mb : Option Nat), left.length < j → acc.length + left.length ≤ 1000000 → ColAt b bx T0 H0 H acc → Sh103 b bx0 r T → left.all isTokE = true →
   (∀ T' H' it' acc', (acc ++ keysE left).Perm acc' → ColAt b bx T0 H0 H' acc' → K (.exit 0) ⟨T', H', it'⟩) →
   loopP (execP (Ahs.runT apS (n + 1)) RP lim0 lim (n + 1) body103) j ⟨T, H, some ⟨r, mb, left, c0⟩⟩ K
 | 0, left, acc, H, T, c0, mb, h, _, _, _, _, _ => by omega
 | j + 1, left, acc, H, T, c0, mb, hj, hle, hC, hT, hall, hK => by
  obtain ⟨t2, t3, t4, t6, t7, t8, t9, t10, t11, t12, t13, rfl⟩ := hT
  unfold loopP
  show execP (Ahs.runT apS (n + 1)) RP lim0 lim (n + 1) (.seq (.region _) (.seq (.cond _ .skip (.exit 0)) (.block 1 _))) _ _
  refine execP_seq (execP_reg (opsP_next rfl rfl rfl rfl (fun hnil => ?_) fun k v rest hp => ?_))
  ·refine opsP_v rfl rfl rfl rfl _ rfl rfl (opsP_nil ?_)
   refine execP_seq (execP_cond false rfl (fun e => by simp at e) fun _ => execP_exit ?_)
   simp only at hnil
   subst hnil
   exact hK _ _ _ acc (by simp [keysE]) hC
  ·simp only at hp
   have hke : isTokE (k, v) = true := List.all_eq_true.1 hall _ (hp.mem_iff.2 (by simp))
   have hkv := keyE_eq hke
   have hallr : rest.all isTokE = true := by
    rw [List.all_eq_true] at hall ⊢
    exact fun e he => hall e (hp.mem_iff.2 (by simp [he]))
   have hlen : left.length = rest.length + 1 := by rw [hp.length_eq]; rfl
   have hpk : (acc ++ keysE left).Perm (acc ++ [keyE (k, v)] ++ keysE rest) := by
    rw [List.append_assoc]
    exact (hp.map keyE).append_left acc
   generalize keyE (k, v) = t at *
   simp only at hkv
   subst hkv
   have h8 : (encB t.1).length = 8 := by rw [encB_len, t.2]
   refine opsP_v rfl rfl rfl rfl _ rfl rfl (opsP_nil ?_)
   refine execP_seq (execP_cond true rfl (fun _ => ?_) fun e => by simp at e)
   refine execP_skip ?_
   refine execP_block (execP_seq (execP_reg ?_))
   refine opsP_entry rfl rfl rfl rfl rfl ?_
   refine opsP_v rfl rfl rfl rfl _ rfl rfl ?_
   refine opsP_1 rfl rfl rfl rfl rfl ?_
   have hn := hC.next
   have hln : lim ≤ H.next := by omega
   refine opsP_st rfl rfl rfl rfl (astore_new (cs := zT8) (x := .agg (encB t.1)) hln h8 rfl (encB_one _)) (opsP_nil ?_)
   have n1 : (H.push (.cells (encB t.1))).next = H.next + 1 := Heap.next_push _ _
   obtain ⟨H', hrun, m1, g1, g2, g3, g4⟩ := round117 (n := n) (lim := lim) (b := b) (bx := bx) (bl := H.next - 1) (H := H.push (.cells (encB t.1))) (acc := acc) (t := t) (by rw [Heap.get_push_old _ _ _ (by omega)]; exact hC.loop) hbl (cells_push_old hC.box) hxl (by omega)
    (fun h0 => by
     have h1 : 0 < acc.length := List.length_pos_iff.2 h0
     exact ⟨cells_push_old (hC.row h0), by omega, by omega⟩) (by omega) hT0
   rw [n1] at m1 g2 g3 g4
   refine execP_seq (execP_reg ?_)
   refine opsP_v rfl rfl rfl rfl _ rfl rfl ?_
   refine opsP_v rfl rfl rfl rfl _ rfl (aload_newA H h8) ?_
   refine opsP_cally rfl rfl rfl rfl rfl hrun ?_
   refine opsP_v rfl rfl rfl rfl _ rfl rfl (opsP_nil ?_)
   refine execP_cond false rfl (fun e => by simp at e) fun _ => execP_skip ?_
   refine keys_loop hl hb hbl hx hxl hT0 j rest (acc ++ [t]) H' _ _ _ (by omega) (by rw [List.length_append]; simp; omega) ⟨?_, g1, ?_, ?_, ?_⟩ ⟨_, _, _, _, _, _, _, _, _, _, _, rfl⟩ hallr fun T' H2 it' acc' hp' hC' => hK T' H2 it' acc' (hpk.trans hp') hC'
   ·rw [List.length_append]; simp; omega
   ·rw [show H'.next - 1 = H.next + 1 + 2 by omega]; exact g2
   ·intro _
    rw [show H'.next - 1 = H.next + 1 + 2 by omega]; exact g3
   ·intro c hc hcb hcx
    rw [g4 c (by omega) hcb hcx (fun h0 => by have h1 : 0 < acc.length := List.length_pos_iff.2 h0; omega), Heap.get_push_old _ _ _ (by omega)]
    exact hC.old c hc hcb hcx
end
theorem mapEs_here {H : Heap} {m : AVal} {es : List (AVal × AVal)} (h : mapEs H m = some es) (H' : Heap) (hk : ∀ b, b < H.next → H'.get b = H.get b) : (m = .map none ∧ es = []) ∨ ∃ b clock, m = .map (some b) ∧ H'.get b = some (.map es clock) ∧ b < H.next := by
 rcases mapEs_some h with h | ⟨b, cl, e, g, hl⟩
 ·exact .inl h
 ·exact .inr ⟨b, cl, e, by rw [hk b hl, g], hl⟩
theorem aload_here {H H' : Heap} {x v : AVal} (h : aload H none x = some v) (hk : ∀ b, b < H.next → H'.get b = H.get b) : aload H' none x = some v := by
 obtain ⟨b, o, rfl, cs, hc⟩ := aload_inv h
 rw [aload_congr (H := H)]
 ·exact h
 ·have := Heap.cells_lt hc
  simp only [Heap.cells, hk b this]
theorem collect {lim0 k : Nat} {H : Heap} {bx0 : Nat} {m : AVal} {es : List (AVal × AVal)} {K : AVal → Heap → Prop} (hm : aload H none (.ptr (some (bx0, 0))) = some m) (hes : mapEs H m = some es) (hall : es.all isTokE = true) (hlen : es.length ≤ 1000000) (hk : es.length < k)
  (h : ∀ H' acc, (keysE es).Perm acc → H'.next = H.next + 2 + 4 * acc.length → (∀ b, b < H.next → H'.get b = H.get b) → (acc ≠ [] → H'.cells (H'.next - 1) = some (encTs acc)) → K (slT acc (H'.next - 1)) H') :
  runP apS dpf (k + 4) lim0 H.next (.fn 101) [.fn 103 [] [.ptr (some (bx0, 0))]] H K := by
 refine runP_fun (af := f101) rfl ?_
 refine execP_seq (execP_reg (opsP_v rfl rfl rfl rfl _ rfl rfl (opsP_nil ?_)))
 refine execP_seq (execP_reg (opsP_v rfl rfl rfl rfl _ rfl rfl ?_))
 refine opsP_call rfl rfl rfl ?_
 refine runP_fun (af := f117) rfl ?_
 refine execP_seq (execP_reg ?_)
 refine opsP_1 rfl rfl rfl rfl (step_box (cs := [.sl none 0 (.ex 0)]) rfl rfl) ?_
 refine opsP_v rfl rfl rfl rfl _ rfl rfl (opsP_nil ?_)
 refine execP_seq (execP_seq (execP_reg (opsP_v rfl rfl rfl rfl _ rfl rfl (opsP_nil ?_))))
 refine execP_gen (fun T => T = [.sl none 0 (.ex 0), .fn 103 [] [.ptr (some (bx0, 0))], .ptr (some (H.next, 0)), und, .sl none 0 (.ex 0), und, .fn 103 [] [.ptr (some (bx0, 0))], und, und, und, und, und, und]) (H.push (.cells [.sl none 0 (.ex 0)])) none rfl rfl rfl ?_
 rintro T rfl
 have n1 : (H.push (.cells [.sl none 0 (.ex 0)])).next = H.next + 1 := Heap.next_push _ _
 refine execP_block (execP_ranges rfl rfl rfl ?_)
 obtain ⟨T0, hT0⟩ : ∃ T0, T0 = [.sl none 0 (.ex 0), .fn 103 [] [.ptr (some (bx0, 0))], .ptr (some (H.next, 0)), und, .sl none 0 (.ex 0), und, .fn 103 [] [.ptr (some (bx0, 0))], und, und, und, und, und, und] := ⟨_, rfl⟩
 obtain ⟨H0, hH0⟩ : ∃ H0, H0 = (H.push (.cells [.sl none 0 (.ex 0)])).push (.loop ⟨.ready, none, T0, [7], asg117, body117⟩) := ⟨_, rfl⟩
 have n0 : H0.next = H.next + 2 := by rw [hH0, Heap.next_push, n1]
 have old : ∀ b, b < H.next → H0.get b = H.get b := fun b hb => by
  rw [hH0, Heap.get_push_old _ _ _ (by omega), Heap.get_push_old _ _ _ (by omega)]
 have gl : H0.get (H.next + 1) = some (.loop ⟨.ready, none, T0, [7], asg117, body117⟩) := by rw [hH0, ← n1]; exact Heap.get_push_new _ _
 have gx : H0.cells H.next = some [slT [] (H0.next - 1)] := by rw [hH0]; exact cells_push_old (cells_push_new H _)
 subst hT0
 show runP apS dpf (k + 2) lim0 H.next (.fn 103) [.yl (H.next + 1), .ptr (some (bx0, 0))] ((H.push (.cells [.sl none 0 (.ex 0)])).push (.loop ⟨.ready, none, [.sl none 0 (.ex 0), .fn 103 [] [.ptr (some (bx0, 0))], .ptr (some (H.next, 0)), und, .sl none 0 (.ex 0), und, .fn 103 [] [.ptr (some (bx0, 0))], und, und, und, und, und, und], [7], asg117, body117⟩)) _
 rw [← hH0]
 clear hH0
 refine runP_fun (af := f103) rfl ?_
 refine execP_seq (execP_reg ?_)
 refine opsP_v rfl rfl rfl rfl _ rfl (aload_here hm old) ?_
 refine opsP_range rfl rfl rfl rfl es (mapEs_here hes H0 old) fun r mb hmb => opsP_nil ?_
 refine execP_gen (Sh103 (H.next + 1) bx0 r) H0 (some ⟨r, mb, es, none⟩) ⟨_, _, _, _, _, _, _, _, _, _, _, rfl⟩ rfl rfl ?_
 intro T1 hT1
 refine execP_block ?_
 show loopP _ (k + 1) _ _
 refine keys_loop (n := k) (H0 := H0) (b := H.next + 1) (bx := H.next) (by omega) (by omega) (by omega) (by omega) (Nat.le_refl _) ⟨_, _, _, _, _, _, _, _, _, _, _, _, rfl⟩ (k + 1) es [] H0 T1 none mb (by omega) (by simpa using hlen) ⟨by simp, gl, gx, fun e => absurd rfl e, fun _ _ _ _ => rfl⟩ hT1 hall ?_
 intro T' H' it' acc hp hC
 have hn := hC.next
 refine ⟨fun id => by simp, _, rfl, ?_⟩
 have n1' : (H.push (.cells [.sl none 0 (.ex 0)])).next = H.next + 1 := n1
 refine rng_ready (T := [.sl none 0 (.ex 0), .fn 103 [] [.ptr (some (bx0, 0))], .ptr (some (H.next, 0)), und, .sl none 0 (.ex 0), und, .fn 103 [] [.ptr (some (bx0, 0))], und, und, und, und, und, und]) (by rw [n1']; exact hC.loop) ?_
 refine execP_seq (execP_reg ?_)
 refine opsP_v (v := slT acc (H'.next - 1)) rfl rfl rfl rfl _ rfl ?_ ?_
 ·show aload (Heap.set _ _ _) none (.ptr (some (H.next, 0))) = _
  rw [aload_one (cells_set_other hC.box (by rw [n1']; omega))]; rfl
 refine opsP_v rfl rfl rfl rfl _ rfl rfl (opsP_nil ?_)
 refine ⟨fun id => by simp, _, rfl, ?_⟩
 refine opsP_v rfl rfl rfl rfl _ rfl rfl (opsP_nil ?_)
 refine ⟨fun id => by simp, _, rfl, ?_⟩
 have := h (H'.set (H.next + 1) .dead) acc (by simpa using hp) (by rw [Heap.next_set]; omega) (fun c hc => by
  rw [Heap.get_set_other _ _ _ _ (by omega), hC.old c (by omega) (by omega) (by omega)]
  exact old c hc) (fun h0 => by
  have h1 : 0 < acc.length := List.length_pos_iff.2 h0
  rw [Heap.next_set]
  exact cells_set_other (hC.row h0) (by omega))
 rw [Heap.next_set] at this
 exact this
set_option maxHeartbeats 4000000 in
theorem keys_ok : PrimOK Try.prog 67 g67 := by
 refine PrimOK.drawn Try.checked.mixed apS_ok dpkOK (f := 67) (af := f67) rfl ?_ ?_
 ·intro lim args H v H' hl h
  unfold g67 at h
  split at h <;> try (simp at h; done)
  split at h <;> try (simp at h; done)
  split at h <;> try (simp at h; done)
  split at h <;> try (simp at h; done)
  split at h
  ·simp only [Option.some.injEq, Prod.mk.injEq] at h
   obtain ⟨_, rfl⟩ := h
   exact ⟨by rw [pushDead_next]; omega, fun b hb => pushDead_old _ (by omega)⟩
  ·simp only [Option.some.injEq, Prod.mk.injEq] at h
   obtain ⟨_, rfl⟩ := h
   refine ⟨by rw [Heap.next_push, pushDead_next]; omega, fun b hb => ?_⟩
   rw [Heap.get_push_old _ _ _ (by rw [pushDead_next]; omega), pushDead_old _ (by omega)]
 ·intro lim args H v H' hl h
  unfold g67 at h
  split at h <;> try (simp at h; done)
  rename_i bx0
  split at h <;> try (simp at h; done)
  rename_i m hm
  split at h <;> try (simp at h; done)
  rename_i es hes
  split at h <;> try (simp at h; done)
  rename_i hok
  simp only [Bool.and_eq_true] at hok
  have hall := hok.1
  have hlen : es.length ≤ 1000000 := Nat.le_of_ble_eq_true hok.2
  refine ⟨es.length + 6, runP_fun (af := f67) rfl ?_⟩
  refine execP_seq (execP_reg (opsP_v rfl rfl rfl rfl _ rfl rfl (opsP_nil ?_)))
  refine execP_seq (execP_reg (opsP_v rfl rfl rfl rfl _ rfl rfl ?_))
  refine opsP_call rfl rfl rfl ?_
  refine collect (k := es.length + 1) hm hes hall hlen (by omega) fun H1 acc hp hn hg hrow => ?_
  have hal : acc.length = es.length := by rw [← hp.length_eq]; unfold keysE; rw [List.length_map]
  refine opsP_v rfl rfl rfl rfl _ rfl rfl (opsP_nil ?_)
  refine execP_seq (execP_reg (opsP_v rfl rfl rfl rfl _ rfl rfl ?_))
  refine opsP_v rfl rfl rfl rfl _ rfl rfl ?_
  cases es with
  | nil =>
   have h0 : acc = [] := List.eq_nil_of_length_eq_zero hal
   subst h0
   simp only [Option.some.injEq, Prod.mk.injEq] at h
   obtain ⟨rfl, rfl⟩ := h
   refine opsP_calld (v := .tup []) (H' := H1) rfl rfl rfl rfl (by rw [sortS]; rfl) (opsP_nil ?_)
   refine execP_seq (execP_reg (opsP_v rfl rfl rfl rfl _ rfl rfl ?_))
   refine opsP_v rfl rfl rfl rfl _ rfl rfl (opsP_nil ?_)
   exact ⟨fun id => by simp, _, rfl, rfl, forget_dead hn hg⟩
  | cons e0 es =>
   have h0 : acc ≠ [] := fun e => by rw [e] at hal; simp at hal
   have hrow := hrow h0
   simp only [Option.some.injEq, Prod.mk.injEq] at h
   obtain ⟨rfl, rfl⟩ := h
   rw [List.length_cons] at hal hlen
   have e1 : slT acc (H1.next - 1) = .sl (some (H1.next - 1, 0)) acc.length (.op 8 0) := by unfold slT; rw [if_neg h0]
   have hsort : gSort H.next [slT acc (H1.next - 1), .fn 69 [] []] H1 = some (.tup [], H1.set (H1.next - 1) (.cells (encTs (sortK acc)))) := by
    rw [e1]
    unfold gSort
    simp only [hrow, decRows_enc]
    rw [if_pos]
    simp only [Bool.and_eq_true]
    exact ⟨⟨Nat.ble_eq_true_of_le (by omega), Nat.ble_eq_true_of_le (by omega)⟩, Nat.ble_eq_true_of_le (by omega)⟩
   refine opsP_calld (v := .tup []) (H' := H1.set (H1.next - 1) (.cells (encTs (sortK acc)))) rfl rfl rfl rfl (by rw [sortS]; exact hsort) (opsP_nil ?_)
   refine execP_seq (execP_reg (opsP_v rfl rfl rfl rfl _ rfl rfl ?_))
   refine opsP_v rfl rfl rfl rfl _ rfl rfl (opsP_nil ?_)
   have hb : H1.next - 1 = H.next + (4 * (e0 :: es).length + 1) := by rw [List.length_cons]; omega
   refine ⟨fun id => by simp, _, rfl, ?_, ?_⟩
   ·show slT acc (H1.next - 1) = _
    rw [e1, hb, hal]; rfl
   ·have hsk : sortK acc = sortK (keysE (e0 :: es)) := sortK_of_perm hp.symm
    rw [hsk]
    have hpd : (pushDead (4 * (e0 :: es).length + 1) H).next = H1.next - 1 := by rw [pushDead_next, hb]
    refine ⟨?_, fun b => ?_⟩
    ·show (H1.set _ _).next ≤ _
     rw [Heap.next_set, Heap.next_push, hpd]; omega
    ·show _ = (H1.set _ _).get b ∨ _
     by_cases e : b = H1.next - 1
     ·refine .inl ?_
      rw [e, Heap.get_set_same _ _ _ (by omega), ← hpd]
      exact Heap.get_push_new _ _
     ·rw [Heap.get_push_old _ _ _ (by rw [hpd]; exact e), Heap.get_set_other _ _ _ _ e]
      rcases Nat.lt_or_ge b H.next with g | g
      ·exact .inl (by rw [pushDead_old _ g]; exact (hg b g).symm)
      ·rcases Nat.lt_or_ge b (H1.next - 1) with g2 | g2
       ·exact .inr ⟨g, pushDead_new _ g (by omega)⟩
       ·exact .inl (by rw [Heap.get_ge _ _ (by rw [hpd]; exact g2)]; exact (Heap.get_ge H1 b (by omega)).symm)
end Go.Proofs.Ytjflpnahjooffaa.catm
