/- The laws of the catalogue: acts, as they are handed in. -/
import Derived.Test.YtjflpnahjooffaaCtM
import Derived.Test.YtjflpnahjooffaaChsX3
set_option maxRecDepth 100000
set_option linter.unusedVariables false
set_option linter.unusedSimpArgs false
namespace Go.Proofs.Ytjflpnahjooffaa.cat
open Go.Ahs

structure ActsAt (H : Heap) (v : AVal) (l : List PAct) : Prop where
  len : l.length ≤ maxLen
  sl : Sl H 15 v (l.map encA)
  wf : ∀ a ∈ l, WfA a

def actTy : Ty := .int .u8 (.int .u8 (.int .u8 (.int .u8 (.int .u8 (.int .u8 (.int .u8 (.int .u8 (.int .u8 (.int .u8 (.int .u8 (.int .i64 (.int .i64 (.int .i64 (.int .i64 .nil))))))))))))))

theorem ActsAt.keep {H H' : Heap} (hk : Keeps2 H H') {v : AVal} {l : List PAct} (h : ActsAt H v l) : ActsAt H' v l := ⟨h.len, h.sl.keep hk, h.wf⟩
theorem nat_u8 {n : Int} (h : 0 ≤ n ∧ n ≤ 255) : ((n.toNat : Nat) : Int) = n ∧ n.toNat < 256 := by omega
theorem byte_u8 {n : Int} (h : 0 ≤ n ∧ n ≤ 255) : (((UInt8.ofNat n.toNat).toNat : Nat) : Int) = n := by
  rw [toNat_of (by omega)]; omega

theorem wf_act {H : Heap} {x : List AVal} (h : Wf H actTy x) : ∃ a : PAct, x = encA a ∧ WfA a := by
  obtain ⟨d, _, rfl, hd, s, _, rfl, hs, r, _, rfl, hr, t0, _, rfl, h0, t1, _, rfl, h1, t2, _, rfl, h2, t3, _, rfl, h3, t4, _, rfl, h4, t5, _, rfl, h5, t6, _, rfl, h6, t7, _, rfl, h7, k, _, rfl, _, b, _, rfl, _, q, _, rfl, _, u, _, rfl, _, rfl⟩ := h
  have hd := wfU8 hd
  have hs := wfU8 hs
  have hr := wfU8 hr
  refine ⟨⟨d.toNat, s.toNat, r.toNat, ⟨[UInt8.ofNat t0.toNat, UInt8.ofNat t1.toNat, UInt8.ofNat t2.toNat, UInt8.ofNat t3.toNat, UInt8.ofNat t4.toNat, UInt8.ofNat t5.toNat, UInt8.ofNat t6.toNat, UInt8.ofNat t7.toNat], rfl⟩, ⟨k, b, q, u⟩⟩, ?_, ⟨(nat_u8 hd).2, (nat_u8 hs).2, (nat_u8 hr).2⟩⟩
  unfold encA encB encQ
  simp only [List.map_cons, List.map_nil, List.cons_append, List.nil_append, (nat_u8 hd).1, (nat_u8 hs).1, (nat_u8 hr).1, byte_u8 (wfU8 h0), byte_u8 (wfU8 h1), byte_u8 (wfU8 h2), byte_u8 (wfU8 h3), byte_u8 (wfU8 h4), byte_u8 (wfU8 h5), byte_u8 (wfU8 h6), byte_u8 (wfU8 h7)]

theorem wf_acts {H : Heap} {v : AVal} (h : Wf H (.slice actTy .nil) [v]) : ∃ l : List PAct, ActsAt H v l := by
  obtain ⟨v', _, e, _, ⟨xs, h1, h2, h3⟩, _⟩ := h
  simp only [List.cons.injEq] at e
  obtain ⟨rfl, _⟩ := e
  obtain ⟨l, hl, hq⟩ := wf_list (α := PAct) (Q := fun x a => x = encA a ∧ WfA a) (fun x hx => wf_act hx) h3
  have e := wf_eqs (enc := encA) hl fun i x a e1 e2 => (hq i x a e1 e2).1
  refine ⟨l, by rw [hl]; exact h2, by rw [← e]; exact h1, fun a ha => ?_⟩
  obtain ⟨i, hi, rfl⟩ := List.getElem_of_mem ha
  exact (hq i xs[i] l[i] (List.getElem?_eq_getElem (by omega)) (List.getElem?_eq_getElem hi)).2

/-- What is there behind acts. -/
def playC : PCat → List PAct → PCat
  | C, [] => C
  | C, a :: l => playC (actC C a).2 l
theorem playC_ok : ∀ (l : List PAct) {C : PCat}, OkC C → OkC (playC C l)
  | [], C, h => h
  | a :: l, C, h => playC_ok l (actC_ok h a).1

theorem CatAt.ltb {H : Heap} {b m : Nat} {C : PCat} (h : CatAt H b m C) : b < H.next ∧ m < H.next := ⟨Heap.cells_lt h.cells, h.map.lt⟩

/-- One act of a row. -/
theorem act_at {H : Heap} {v : AVal} {l : List PAct} {i : Nat} (h : ActsAt H v l) (hi : i < l.length) : ∃ a, l[i]? = some a ∧ WfA a ∧ aindexAddr none 15 v (.int .i64 (i : Int)) = some (Ahs.slot v (i * 15)) ∧ aload H (some 15) (Ahs.slot v (i * 15)) = some (.agg (encA a)) ∧ l.drop i = a :: l.drop (i + 1) := by
  have hx : l[i]? = some l[i] := List.getElem?_eq_getElem hi
  refine ⟨l[i], hx, h.wf _ (List.getElem_mem hi), h.sl.addr (by rw [List.length_map]; exact hi), h.sl.load (by rw [List.getElem?_map, hx]; rfl), List.drop_eq_getElem_cons hi⟩

end Go.Proofs.Ytjflpnahjooffaa.cat
