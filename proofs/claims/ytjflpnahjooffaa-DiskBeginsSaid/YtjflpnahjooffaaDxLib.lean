/- strings.Join, and a disk's names in their row, out of the library's contracts. -/
import Derived.Test.YtjflpnahjooffaaProg
import Derived.Test.YtjflpnahjooffaaChsK1
import Derived.Test.YtjflpnahjooffaaChsK3
import Derived.Shelf.Strings.OnBuilder
import Derived.Shelf.SlIter.Nil
import Derived.Shelf.SortM.Plain
import Derived.Shelf.SortM.SortNone
import Derived.KernelRfl
set_option maxRecDepth 100000
namespace Go.Proofs
open Go.RowKit Go.Maps Go.Sort Go.Shelf
def Try.laysJoin_ren : Go.Shelf.Ren := ⟨fun | 156 => 83 | 165 => 105 | 166 => 106 | 169 => 107 | 240 => 120 | 241 => 121 | 276 => 134 | 277 => 135 | n => n, fun | 31 => 91 | 9 => 9 | 3 => 3 | 4 => 4 | 0 => 0 | 20 => 20 | 72 => 170 | 76 => 173 | 70 => 168 | 37 => 93 | 75 => 172 | 127 => 183 | 164 => 197 | 5 => 5 | 80 => 31 | n => n, fun | n => n⟩
theorem Try.laysJoin : Go.Proofs.Lays.n156 Try.prog Try.laysJoin_ren := { mixed := by kernel_rfl, f156 := Try.func83.trans (congrArg some (by kernel_rfl)), f165 := Try.func105.trans (congrArg some (by kernel_rfl)), f166 := Try.func106.trans (congrArg some (by kernel_rfl)), f169 := Try.func107.trans (congrArg some (by kernel_rfl)), f240 := Try.func120.trans (congrArg some (by kernel_rfl)), f241 := Try.func121.trans (congrArg some (by kernel_rfl)), f276 := Try.func134.trans (congrArg some (by kernel_rfl)), f277 := Try.func135.trans (congrArg some (by kernel_rfl)), t0 := Try.underlying0, a0 := Try.isAgg0, z0 := Try.sizeOf0, v0 := Try.zeroValue0, t3 := Try.underlying3, a3 := Try.isAgg3, z3 := Try.sizeOf3, v3 := Try.zeroValue3, t4 := Try.underlying4, a4 := Try.isAgg4, z4 := Try.sizeOf4, v4 := Try.zeroValue4, t9 := Try.underlying9, a9 := Try.isAgg9, z9 := Try.sizeOf9, v9 := Try.zeroValue9, t20 := Try.underlying20, a20 := Try.isAgg20, z20 := Try.sizeOf20, v20 := Try.zeroValue20, t31 := Try.underlying91, a31 := Try.isAgg91, z31 := Try.sizeOf91, v31 := Try.zeroValue91, t37 := Try.underlying93, a37 := Try.isAgg93, z37 := Try.sizeOf93, v37 := Try.zeroValue93, t70 := Try.underlying168, a70 := Try.isAgg168, z70 := Try.sizeOf168, v70 := Try.zeroValue168, t72 := Try.underlying170, a72 := Try.isAgg170, z72 := Try.sizeOf170, v72 := Try.zeroValue170, t75 := Try.underlying172, a75 := Try.isAgg172, z75 := Try.sizeOf172, v75 := Try.zeroValue172, t76 := Try.underlying173, a76 := Try.isAgg173, z76 := Try.sizeOf173, v76 := Try.zeroValue173, t127 := Try.underlying183, a127 := Try.isAgg183, z127 := Try.sizeOf183, v127 := Try.zeroValue183, t164 := Try.underlying197, a164 := Try.isAgg197, z164 := Try.sizeOf197, v164 := Try.zeroValue197 }
theorem Try.extraJoin : Builder.Extra Try.prog Try.laysJoin_ren := { sizeBuilder := by kernel_rfl, liesBuilder := by kernel_rfl, t5 := Try.underlying5, a5 := Try.isAgg5, z5 := Try.sizeOf5, v5 := Try.zeroValue5, infoByte := by kernel_rfl, cellsByte := by kernel_rfl, sizeByte := by kernel_rfl, neB5 := by decide }
def Try.laysKeys_ren : Go.Shelf.Ren := ⟨fun | 7 => 91 | 10 => 110 | n => n, fun | 23 => 102 | 26 => 9 | 3 => 147 | 28 => 156 | 0 => 0 | 27 => 155 | 33 => 34 | 4 => 4 | n => n, fun | n => n⟩
theorem Try.laysKeys : Go.Proofs.SlLaysZ.n7 Try.prog Try.laysKeys_ren := { mixed := by kernel_rfl, f7 := ⟨ "maps.Keys[map[string]wapentake/disk.file,string,wapentake/disk.file]", by decide, Try.func91.trans (congrArg some (by kernel_rfl))⟩, f10 := ⟨ "maps.Keys[map[string]wapentake/disk.file,string,wapentake/disk.file]$1", by decide, Try.func110.trans (congrArg some (by kernel_rfl))⟩, t0 := Try.underlying0, a0 := Try.isAgg0, z0 := Try.sizeOf0, v0 := Try.zeroValue0, t4 := Try.underlying4, a4 := Try.isAgg4, z4 := Try.sizeOf4, v4 := Try.zeroValue4, t23 := Try.underlying102, a23 := Try.isAgg102, z23 := Try.sizeOf102, v23 := Try.zeroValue102, t26 := Try.underlying9, a26 := Try.isAgg9, z26 := Try.sizeOf9, v26 := Try.zeroValue9, t27 := Try.underlying155, a27 := Try.isAgg155, z27 := Try.sizeOf155, v27 := Try.zeroValue155, t28 := Try.underlying156, a28 := Try.isAgg156, z28 := Try.sizeOf156, v28 := Try.zeroValue156, t33 := Try.underlying34, a33 := Try.isAgg34, z33 := Try.sizeOf34, v33 := Try.zeroValue34 }
def Try.laysSorted_ren : Go.Shelf.Ren := ⟨fun | 6 => 90 | 8 => 108 | 9 => 109 | 11 => 122 | 13 => 119 | 12 => 123 | 23 => 132 | 24 => 133 | 14 => 136 | 15 => 137 | 16 => 138 | 17 => 139 | 18 => 140 | 19 => 141 | 20 => 142 | 21 => 143 | 22 => 144 | 25 => 150 | 26 => 146 | 27 => 147 | 28 => 151 | 29 => 152 | 30 => 153 | 31 => 155 | n => n, fun | 26 => 9 | 28 => 156 | 24 => 91 | 0 => 0 | 3 => 3 | 37 => 163 | 48 => 195 | 50 => 111 | 4 => 4 | 40 => 188 | 39 => 187 | 45 => 192 | 5 => 5 | 9 => 9 | 51 => 206 | 55 => 161 | 57 => 213 | 58 => 82 | 33 => 34 | n => n, fun | n => n⟩
theorem Try.laysSorted : Go.Proofs.SlLaysZ.n6 Try.prog Try.laysSorted_ren := { mixed := by kernel_rfl, f6 := ⟨ "slices.Sorted[string]", by decide, Try.func90.trans (congrArg some (by kernel_rfl))⟩, f8 := ⟨ "slices.Collect[string]", by decide, Try.func108.trans (congrArg some (by kernel_rfl))⟩, f11 := ⟨ "slices.AppendSeq[[]string,string]", by decide, Try.func122.trans (congrArg some (by kernel_rfl))⟩, t0 := Try.underlying0, a0 := Try.isAgg0, z0 := Try.sizeOf0, v0 := Try.zeroValue0, t24 := Try.underlying91, a24 := Try.isAgg91, z24 := Try.sizeOf91, v24 := Try.zeroValue91, t26 := Try.underlying9, a26 := Try.isAgg9, z26 := Try.sizeOf9, v26 := Try.zeroValue9, t28 := Try.underlying156, a28 := Try.isAgg156, z28 := Try.sizeOf156, v28 := Try.zeroValue156, i26 := by kernel_rfl }
def Try.laysSort_ren : Go.Shelf.Ren := ⟨fun | 6 => 109 | 8 => 119 | 9 => 123 | 19 => 132 | 20 => 133 | 21 => 136 | 22 => 137 | 23 => 138 | 24 => 139 | 25 => 140 | 26 => 141 | 27 => 142 | 28 => 143 | 29 => 144 | 36 => 150 | 31 => 146 | 32 => 147 | 37 => 151 | 38 => 152 | 39 => 153 | 41 => 155 | n => n, fun | 27 => 91 | 29 => 9 | 3 => 3 | 32 => 163 | 26 => 91 | 0 => 0 | 44 => 195 | 46 => 111 | 4 => 4 | 36 => 188 | 35 => 187 | 41 => 192 | 5 => 5 | 9 => 9 | 53 => 206 | 57 => 161 | 63 => 213 | 64 => 82 | n => n, fun | n => n⟩
theorem Try.laysSort : Go.Proofs.SlLaysM.n6 Try.prog Try.laysSort_ren := { mixed := by kernel_rfl, f6 := ⟨ "slices.Sort[[]string,string]", by decide, Try.func109.trans (congrArg some (by kernel_rfl))⟩, f8 := Try.func119.trans (congrArg some (by kernel_rfl)), f9 := ⟨ "slices.pdqsortOrdered[string]", by decide, Try.func123.trans (congrArg some (by kernel_rfl))⟩, f19 := Try.func132.trans (congrArg some (by kernel_rfl)), f20 := Try.func133.trans (congrArg some (by kernel_rfl)), f21 := ⟨ "slices.insertionSortOrdered[string]", by decide, Try.func136.trans (congrArg some (by kernel_rfl))⟩, f22 := ⟨ "slices.heapSortOrdered[string]", by decide, Try.func137.trans (congrArg some (by kernel_rfl))⟩, f23 := ⟨ "slices.breakPatternsOrdered[string]", by decide, Try.func138.trans (congrArg some (by kernel_rfl))⟩, f24 := ⟨ "slices.choosePivotOrdered[string]", by decide, Try.func139.trans (congrArg some (by kernel_rfl))⟩, f25 := ⟨ "slices.reverseRangeOrdered[string]", by decide, Try.func140.trans (congrArg some (by kernel_rfl))⟩, f26 := ⟨ "slices.partialInsertionSortOrdered[string]", by decide, Try.func141.trans (congrArg some (by kernel_rfl))⟩, f27 := ⟨ "cmp.Less[string]", by decide, Try.func142.trans (congrArg some (by kernel_rfl))⟩, f28 := ⟨ "slices.partitionEqualOrdered[string]", by decide, Try.func143.trans (congrArg some (by kernel_rfl))⟩, f29 := ⟨ "slices.partitionOrdered[string]", by decide, Try.func144.trans (congrArg some (by kernel_rfl))⟩, f31 := Try.func146.trans (congrArg some (by kernel_rfl)), f32 := Try.func147.trans (congrArg some (by kernel_rfl)), f36 := ⟨ "slices.siftDownOrdered[string]", by decide, Try.func150.trans (congrArg some (by kernel_rfl))⟩, f37 := ⟨ "slices.medianAdjacentOrdered[string]", by decide, Try.func151.trans (congrArg some (by kernel_rfl))⟩, f38 := ⟨ "slices.medianOrdered[string]", by decide, Try.func152.trans (congrArg some (by kernel_rfl))⟩, f39 := ⟨ "cmp.isNaN[string]", by decide, Try.func153.trans (congrArg some (by kernel_rfl))⟩, f41 := ⟨ "slices.order2Ordered[string]", by decide, Try.func155.trans (congrArg some (by kernel_rfl))⟩, t0 := Try.underlying0, a0 := Try.isAgg0, z0 := Try.sizeOf0, v0 := Try.zeroValue0, t3 := Try.underlying3, a3 := Try.isAgg3, z3 := Try.sizeOf3, v3 := Try.zeroValue3, t4 := Try.underlying4, a4 := Try.isAgg4, z4 := Try.sizeOf4, v4 := Try.zeroValue4, t5 := Try.underlying5, a5 := Try.isAgg5, z5 := Try.sizeOf5, v5 := Try.zeroValue5, t9 := Try.underlying9, a9 := Try.isAgg9, z9 := Try.sizeOf9, v9 := Try.zeroValue9, t26 := Try.underlying91, a26 := Try.isAgg91, z26 := Try.sizeOf91, v26 := Try.zeroValue91, t27 := Try.underlying91, a27 := Try.isAgg91, z27 := Try.sizeOf91, v27 := Try.zeroValue91, t29 := Try.underlying9, a29 := Try.isAgg9, z29 := Try.sizeOf9, v29 := Try.zeroValue9, t32 := Try.underlying163, a32 := Try.isAgg163, z32 := Try.sizeOf163, v32 := Try.zeroValue163, t35 := Try.underlying187, a35 := Try.isAgg187, z35 := Try.sizeOf187, v35 := Try.zeroValue187, t36 := Try.underlying188, a36 := Try.isAgg188, z36 := Try.sizeOf188, v36 := Try.zeroValue188, t41 := Try.underlying192, a41 := Try.isAgg192, z41 := Try.sizeOf192, v41 := Try.zeroValue192, t44 := Try.underlying195, a44 := Try.isAgg195, z44 := Try.sizeOf195, v44 := Try.zeroValue195, t46 := Try.underlying111, a46 := Try.isAgg111, z46 := Try.sizeOf111, v46 := Try.zeroValue111, t53 := Try.underlying206, a53 := Try.isAgg206, z53 := Try.sizeOf206, v53 := Try.zeroValue206, t57 := Try.underlying161, a57 := Try.isAgg161, z57 := Try.sizeOf161, v57 := Try.zeroValue161, t63 := Try.underlying213, a63 := Try.isAgg213, z63 := Try.sizeOf213, v63 := Try.zeroValue213, t64 := Try.underlying82, a64 := Try.isAgg82, z64 := Try.sizeOf82, v64 := Try.zeroValue82 }

theorem Try.sortsD (m : Nat) : AnyZ.SortsIn Try.prog Try.laysSorted_ren Fence.wide m :=
  ⟨fun blk off cap ss W hH hblk hsz => callsIn_wide.2 (AnyM.slices_Sort_string Try.laysSort blk off cap ss W hH hblk hsz),
   fun p cap W => callsIn_wide.2 (AnyM.slices_Sort_string_none Try.laysSort p cap W)⟩

theorem eqIn_mapN {P : Program} (d : Nat) (w : World) {t k e : TypeId} (b : Nat) (h : P.underlying t = some (.map k e)) : (Op.equalIn (d + 1) t (.map (some b)) (.map none)).run P w = .ok false w := by
  simp [Op.equalIn, run_underlying h]
theorem eql_mapN {P : Program} (w : World) {t k e : TypeId} (b : Nat) (h : P.underlying t = some (.map k e)) : (binOp .eql t (.map (some b)) (.map none)).run P w = .ok (.bool false) w := by
  have h2 : Op.equal t (.map (some b)) (.map none) = Op.equalIn (9999 + 1) t (.map (some b)) (.map none) := rfl
  simp only [binOp]
  simp [h2, eqIn_mapN 9999 w b h]

theorem Try.dNone (a : Addr) (b : Nat) (w : World) (h : w.cell? a = some (.map (some b))) : CallsIn Fence.wide 6 Try.prog 79 #[.pointer (some a)] w fun e w' => e = .returned (.bool false) ∧ w' = w := by
  refine callsIn_of_wp Try.func79 rfl trivial ?_ rfl
  simp only [Try.ntmps79, List.size_toArray, List.length_cons, List.length_nil, Nat.reduceAdd, Nat.reduceSub, Array.replicate_succ, Array.replicate_zero, List.push_toArray, List.append_toArray, List.nil_append, List.cons_append]
  have hq := fun w => eql_mapN w b Try.underlying102
  gi_wp2
  go_ret
  exact ⟨rfl, rfl⟩

set_option maxHeartbeats 2000000 in
/-- The names of a disk's files, sorted. -/
theorem Try.dList {H : Type} (a : Addr) (b nn : Nat) (D0 : DataW H) (R : Value → Option (DataW H × List MemPlace)) (w : World) (ha : w.cell? a = some (.map (some b))) (hown : w.ownsMap Try.prog 9 R b nn D0) (hmax : Maps.size D0 ≤ maxLen) (hbytes : Maps.size D0 * 16 ≤ 140737488355328) :
    Calls Try.prog 52 #[.pointer (some a)] w fun e w' => ∃ (v : Value) (ss : List (List UInt8)), e = .returned v ∧ ss.Perm (strKeys D0) ∧
      w'.ownsRow w.heap.size 9 1 v ss.length ((ss.mergeSort leB).map encStr) ∧ (v = .slice none 0 0 ↔ ss = []) ∧ Below w.heap.size w w' := by
  refine (callsIn_wide (n := 7)).1 ?_
  have hbl := hown.lt
  have hseq : SeqGives Fence.wide 3 Try.prog 110 #[.pointer (some ⟨w.heap.size, 0, none⟩)] encStr (fun ss => ss.Perm (strKeys D0)) (Maps.size D0) (w.alloc (.cells #[.map (some b)] 102)) :=
    AnyZ.keys_gives (ρ := Try.laysKeys_ren) { Try.laysKeys with } Fence.wide _ trivial rfl (by omega) w.heap.size b nn D0 _ (by simp) (by simp) (by
      obtain ⟨es, clock, hb, Ft, hs, hD⟩ := hown
      exact ⟨es, clock, (Below.heap_alloc _ _ b hbl).trans hb, Ft, hs, hD⟩)
  have cK : ∀ mb W, CallsIn Fence.wide 6 Try.prog 91 #[.map mb] W fun e w' => e = .returned (.func (.func 110) #[] #[.pointer (some ⟨W.heap.size, 0, none⟩)]) ∧ w' = W.alloc (.cells #[.map mb] 102) := fun mb W => AnyZ.keys_in Try.laysKeys Fence.wide 6 trivial rfl mb W
  have cS := AnyZ.sorted_in Try.laysSorted Fence.wide 6 trivial trivial trivial trivial rfl (by omega) (Try.sortsD _) (enters_of Try.func109 (by kernel_rfl) rfl) 110 #[.pointer (some ⟨w.heap.size, 0, none⟩)] trivial (enters_of Try.func110 (by kernel_rfl) rfl) _ _ hmax hbytes _ hseq
  change CallsIn _ _ Try.prog 90 _ _ _ at cS
  have cN := Try.dNone a b w ha
  have hfN : Fence.wide.fn 79 := trivial
  have hfK : Fence.wide.fn 91 := trivial
  have hfS : Fence.wide.fn 90 := trivial
  refine callsIn_of_wp Try.func52 rfl trivial ?_ rfl
  simp only [Try.ntmps52, List.size_toArray, List.length_cons, List.length_nil, Nat.reduceAdd, Nat.reduceSub, Array.replicate_succ, Array.replicate_zero, List.push_toArray, List.append_toArray, List.nil_append, List.cons_append]
  gi_wp2_with (first
    | (gi_at_call 79; refine cN.mono ?_; rintro e w' ⟨rfl, rfl⟩)
    | (gi_at_call 91; refine (cK _ _).mono ?_; rintro e w' ⟨rfl, rfl⟩)
    | (gi_at_call 90; refine cS.mono ?_; rintro e w' ⟨v, ss, rfl, hS, hrow, hnil, hb⟩))
  go_ret
  exact ⟨v, ss, rfl, hS, ownsRow_base_a hrow (by simp), hnil, ((Below.refl _ _).alloc (Nat.le_refl _) _).trans (hb.mono (by simp))⟩

end Go.Proofs

namespace Go.Proofs.Ytjflpnahjooffaa.disk
open Go.Ahs
theorem join_k : PrimOK Try.prog 83 gJoin := join_ok ⟨Try.f83, Try.func83, by kernel_rfl, by kernel_rfl⟩ (fun a c sep w => Any.strings_Join_none Try.laysJoin Try.extraJoin a c sep w) (fun bk o c xs sep w h1 h2 h3 h4 h5 => Any.strings_Join Try.laysJoin Try.extraJoin bk o c xs sep w h1 h2 h3 h4 h5)
theorem list_k : PrimOK Try.prog 52 gList := list_ok (kt := 9) (rt := 9) Try.underlying9 ⟨Try.f52, Try.func52, by kernel_rfl, by kernel_rfl⟩ (fun a b nn D0 R w h1 h2 h3 h4 => Try.dList a b nn D0 R w h1 h2 h3 h4)
end Go.Proofs.Ytjflpnahjooffaa.disk
