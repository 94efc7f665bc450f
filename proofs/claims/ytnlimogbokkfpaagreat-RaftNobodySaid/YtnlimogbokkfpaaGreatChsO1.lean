/- What is handed in, opened: out of the data that are read, values and a heap of the abstract machine. -/
import Derived.Test.YtnlimogbokkfpaaGreatChsW2
import Derived.ChangeArms
import Derived.OpenShut
set_option linter.unusedSimpArgs false
set_option linter.unusedVariables false
namespace Go.Ahs
inductive Ty where
 | nil
 | int (k : IntKind) (rest : Ty)
 | bool (rest : Ty)
 | str (rest : Ty)
 | slice (e rest : Ty)
def Ty.size : Ty → Nat
 | .nil => 0
 | .int _ r | .bool r | .str r | .slice _ r => r.size + 1
def Ty.app : Ty → Ty → Ty
 | .nil, u => u
 | .int k r, u => .int k (r.app u)
 | .bool r, u => .bool (r.app u)
 | .str r, u => .str (r.app u)
 | .slice e r, u => .slice e (r.app u)
def Ty.rep (u : Ty) : Nat → Ty
 | 0 => .nil
 | n + 1 => u.app (u.rep n)
theorem Ty.size_app : ∀ (t u : Ty), (t.app u).size = t.size + u.size
 | .nil, u => by simp [Ty.app, Ty.size]
 | .int _ r, u | .bool r, u | .str r, u | .slice _ r, u => by simp [Ty.app, Ty.size, Ty.size_app r u]; omega
def tyFields (P : Program) (f : TypeId → Option Ty) : Nat → List Field → Option Ty
 | _, [] => some .nil
 | off, fd :: fs =>
  match f fd.type, tyFields P f (off + P.cellsOf fd.type) fs with
  | some t, some r => if fd.offset = off ∧ P.cellsOf fd.type = t.size then some (t.app r) else none
  | _, _ => none
def tyOf (P : Program) : Nat → TypeId → Option Ty
 | 0, _ => none
 | n + 1, t =>
  match P.underlying t with
  | some (.int k) => some (.int k .nil)
  | some .bool => some (.bool .nil)
  | some .string => some (.str .nil)
  | some (.slice e) => match tyOf P n e with
   | some u => if P.cellsOf e = u.size ∧ 0 < u.size then some (.slice u .nil) else none
   | none => none
  | some (.struct fs) => match tyFields P (tyOf P n) 0 fs.toList with
   | some u => if P.cellsOf t = u.size then some u else none
   | none => none
  | some (.array m e) => match tyOf P n e with
   | some u => if P.cellsOf e = u.size ∧ P.cellsOf t = m * u.size then some (u.rep m) else none
   | none => none
  | _ => none
def Wf (H : Heap) : Ty → List AVal → Prop
 | .nil, vs => vs = []
 | .int k r, vs => ∃ n vs', vs = .int k n :: vs' ∧ (Lit.int k n).wf = true ∧ Wf H r vs'
 | .bool r, vs => ∃ b vs', vs = .bool b :: vs' ∧ Wf H r vs'
 | .str r, vs => ∃ s vs', vs = .str s :: vs' ∧ s.length ≤ maxLen ∧ Wf H r vs'
 | .slice e r, vs => ∃ v vs', vs = v :: vs' ∧ v.one = true ∧ (∃ xs, Sl H e.size v xs ∧ xs.length ≤ maxLen ∧ ∀ x ∈ xs, Wf H e x) ∧ Wf H r vs'
theorem Wf.keep {H H' : Heap} (hk : Keeps2 H H') : ∀ {t : Ty} {vs : List AVal}, Wf H t vs → Wf H' t vs
 | .nil, vs, h => h
 | .int k r, vs, ⟨n, vs', h1, h2, h3⟩ => ⟨n, vs', h1, h2, Wf.keep hk h3⟩
 | .bool r, vs, ⟨b, vs', h1, h3⟩ => ⟨b, vs', h1, Wf.keep hk h3⟩
 | .str r, vs, ⟨s, vs', h1, h2, h3⟩ => ⟨s, vs', h1, h2, Wf.keep hk h3⟩
 | .slice e r, vs, ⟨v, vs', h1, h2, ⟨xs, h3, h4, h5⟩, h6⟩ => ⟨v, vs', h1, h2, ⟨xs, h3.keep hk, h4, fun x hx => Wf.keep hk (h5 x hx)⟩, Wf.keep hk h6⟩
theorem Wf.len {H : Heap} : ∀ {t : Ty} {vs : List AVal}, Wf H t vs → vs.length = t.size
 | .nil, vs, h => by cases h; rfl
 | .int k r, vs, ⟨n, vs', h1, h2, h3⟩ => by rw [h1, List.length_cons, Wf.len h3]; rfl
 | .bool r, vs, ⟨b, vs', h1, h3⟩ => by rw [h1, List.length_cons, Wf.len h3]; rfl
 | .str r, vs, ⟨s, vs', h1, h2, h3⟩ => by rw [h1, List.length_cons, Wf.len h3]; rfl
 | .slice e r, vs, ⟨v, vs', h1, h2, h3, h6⟩ => by rw [h1, List.length_cons, Wf.len h6]; rfl
theorem Wf.app {H : Heap} : ∀ {t u : Ty} {vs us : List AVal}, Wf H t vs → Wf H u us → Wf H (t.app u) (vs ++ us)
 | .nil, u, vs, us, h, h' => by cases h; exact h'
 | .int k r, u, vs, us, ⟨n, vs', h1, h2, h3⟩, h' => ⟨n, vs' ++ us, by rw [h1]; rfl, h2, Wf.app h3 h'⟩
 | .bool r, u, vs, us, ⟨b, vs', h1, h3⟩, h' => ⟨b, vs' ++ us, by rw [h1]; rfl, Wf.app h3 h'⟩
 | .str r, u, vs, us, ⟨s, vs', h1, h2, h3⟩, h' => ⟨s, vs' ++ us, by rw [h1]; rfl, h2, Wf.app h3 h'⟩
 | .slice e r, u, vs, us, ⟨v, vs', h1, h2, h3, h6⟩, h' => ⟨v, vs' ++ us, by rw [h1]; rfl, h2, h3, Wf.app h6 h'⟩
def flatC : AVal → Bool
 | .int _ _ | .bool _ | .str _ | .ptr _ | .sl _ _ _ | .map _ | .nilFn | .nilIface => true
 | _ => false
theorem Wf.flat {H : Heap} : ∀ {t : Ty} {vs : List AVal}, Wf H t vs → vs.all flatC = true
 | .nil, vs, h => by cases h; rfl
 | .int k r, vs, ⟨n, vs', h1, h2, h3⟩ => by rw [h1, List.all_cons, Wf.flat h3]; rfl
 | .bool r, vs, ⟨b, vs', h1, h3⟩ => by rw [h1, List.all_cons, Wf.flat h3]; rfl
 | .str r, vs, ⟨s, vs', h1, h2, h3⟩ => by rw [h1, List.all_cons, Wf.flat h3]; rfl
 | .slice e r, vs, ⟨v, vs', h1, h2, ⟨xs, h3, _⟩, h6⟩ => by
  rw [h1, List.all_cons, Wf.flat h6]
  rcases h3.at' with ⟨_, _, rfl, _⟩ | ⟨_, _, _, _, rfl, _⟩ <;> rfl
theorem flat_flatten {xs : List (List AVal)} (h : ∀ x ∈ xs, x.all flatC = true) : xs.flatten.all flatC = true := by
 induction xs with
 | nil => rfl
 | cons x xs ih => rw [List.flatten_cons, List.all_append, h x (by simp), ih fun y hy => h y (by simp [hy])]; rfl
def PlainH (H : Heap) : Prop := ∀ b cs, H.get b = some (.cells cs) → cs.all flatC = true
structure RelIn (P : Program) (ρ : Mp) (H : Heap) (w : World) : Prop where
 rel : ∀ n0, H.next ≤ n0 → Rel P n0 ρ H w
 fresh : ∀ b, H.next ≤ b → ρ b = none
 flat : ∀ b cs, H.get b = some (.cells cs) → cs.all flatC = true
theorem RelIn.empty (P : Program) (w : World) : RelIn P (fun _ => none) Heap.empty w :=
 ⟨fun n0 _ => ⟨fun _ _ _ h => by simp at h, fun _ _ _ _ h => by simp at h, fun _ _ _ h => by simp at h, fun _ _ h => by simp at h, fun _ _ _ _ _ _ h => by simp at h⟩, fun _ _ => rfl, fun b cs h => by rw [Heap.get_ge _ _ (Nat.zero_le b)] at h; simp at h⟩
section
variable {P : Program} {ρ : Mp} {H : Heap} {w : World}
theorem RelIn.pushX (h : RelIn P ρ H w) {L : Loc} {x : Blk} (hfl : ∀ cs, x = .cells cs → cs.all flatC = true) (hlt : L.blk < w.heap.size) (hm : ∀ es cl, x ≠ .map es cl) (hl : ∀ r, x ≠ .loop r)
  (hx : ∀ cs, x = .cells cs → ∃ c e fr, w.heap[L.blk]? = some (.cells c e fr) ∧ c.size = L.csz ∧ L.d + cs.length ≤ c.size ∧ LRel ρ cs ((c.toList.drop L.d).take cs.length)) :
  RelIn P (upd ρ H.next L) (H.push x) w ∧ Ext ρ (upd ρ H.next L) := by
 have hf : ρ H.next = none := h.fresh _ (Nat.le_refl _)
 have hext := ext_upd (ρ := ρ) L hf
 refine ⟨⟨fun n0 hn0 => ?_, fun b hb => ?_, fun b cs hb => ?_⟩, hext⟩
 ·rw [Heap.next_push] at hn0
  have hr := h.rel n0 (by omega)
  refine ⟨?_, ?_, ?_, ?_, ?_⟩
  ·intro b L1 cs e1 e2
   by_cases e : b = H.next
   ·subst e
    rw [upd_same] at e1; simp at e1; subst e1
    rw [Heap.get_push_new] at e2; simp at e2; subst e2
    obtain ⟨c, e, fr, h1, h2, h3, h4⟩ := hx cs rfl
    exact ⟨c, ⟨e, fr, h1, h2, fun hn => by omega⟩, h3, h4.ext hext⟩
   ·rw [upd_other _ _ e] at e1
    rw [Heap.get_push_old _ _ _ e] at e2
    obtain ⟨c, h1, h2, h3⟩ := hr.row b L1 cs e1 e2
    exact ⟨c, h1, h2, h3.ext hext⟩
  ·intro b L1 es cl e1 e2
   by_cases e : b = H.next
   ·subst e
    rw [Heap.get_push_new] at e2; simp at e2; exact absurd e2 (hm _ _)
   ·rw [upd_other _ _ e] at e1
    rw [Heap.get_push_old _ _ _ e] at e2
    obtain ⟨es', q1, q2⟩ := hr.map b L1 es cl e1 e2
    exact ⟨es', q1, q2.ext hext⟩
  ·intro b L1 r e1 e2
   by_cases e : b = H.next
   ·subst e
    rw [Heap.get_push_new] at e2; simp at e2; exact absurd e2 (hl _)
   ·rw [upd_other _ _ e] at e1
    rw [Heap.get_push_old _ _ _ e] at e2
    obtain ⟨r', q1, q2⟩ := hr.loop b L1 r e1 e2
    exact ⟨r', q1, q2.ext hext⟩
  ·intro b L1 e1
   by_cases e : b = H.next
   ·subst e; rw [upd_same] at e1; simp at e1; subst e1; exact hlt
   ·rw [upd_other _ _ e] at e1; exact hr.dom b L1 e1
  ·intro b b' L1 L2 g1 g2 g3
   by_cases e : b = H.next
   ·omega
   ·rw [upd_other _ _ e, h.fresh b (by omega)] at g3; simp at g3
 ·rw [Heap.next_push] at hb
  rw [upd_other _ _ (by omega)]; exact h.fresh b (by omega)
 ·by_cases e : b = H.next
  ·subst e
   rw [Heap.get_push_new] at hb; simp at hb
   exact hfl cs hb
  ·rw [Heap.get_push_old _ _ _ e] at hb
   exact h.flat b cs hb
theorem lt_of_heap {r : Nat} {o : Obj} (h : w.heap[r]? = some o) : r < w.heap.size := (Array.getElem?_eq_some_iff.1 h).1
def Opened (P : Program) (w : World) (ρ : Mp) (H : Heap) (ty : Ty) (cs : List Value) : Prop :=
 ∃ ρ' H' acs, Keeps2 H H' ∧ Ext ρ ρ' ∧ RelIn P ρ' H' w ∧ LRel ρ' acs cs ∧ Wf H' ty acs
theorem add_block (a : Addr) (n : Nat) : (a.add n).block = a.block := by unfold Addr.add; split <;> rfl
theorem add_off (a : Addr) (n : Nat) : (a.add n).off = a.off + n := by
 unfold Addr.add; split
 ·rename_i h; subst h; rfl
 ·rfl
theorem add_spot {a : Addr} (h : ¬ a.spot.isSome = true) (n : Nat) : ¬ (a.add n).spot.isSome = true := by
 unfold Addr.add; split
 ·exact h
 ·simp
theorem cells_row {base : Nat} {a : Addr} {n : Nat} {cs : List Value} (h : w.cells? base a n = some cs) (hn : 0 < n) :
  ∃ c e fr, w.heap[a.block]? = some (.cells c e fr) ∧ a.spot = none ∧ a.off + n ≤ c.size ∧ cs = (c.toList.drop a.off).take n := by
 unfold World.cells? at h
 split at h
 case isFalse => simp at h
 have hlen : cs.length = n := by simpa using mapM_some_length h
 have hget : ∀ i, i < n → w.cell? (a.add i) = cs[i]? := fun i hi => mapM_some_get h i i (by simp [hi])
 have h0 := hget 0 hn
 rw [List.getElem?_eq_getElem (by omega)] at h0
 have e0 : a.add 0 = a := by simp [Addr.add]
 rw [e0] at h0
 unfold World.cell? at h0
 split at h0
 case h_2 => simp at h0
 rename_i c e fr hc
 split at h0
 ·simp at h0
 rename_i hsp
 have hget' : ∀ i, i < n → c[a.off + i]? = cs[i]? := by
  intro i hi
  have h1 := hget i hi
  unfold World.cell? at h1
  rw [add_block, hc] at h1
  simp only [add_off] at h1
  rw [if_neg (add_spot hsp i)] at h1
  exact h1
 refine ⟨c, e, fr, hc, by simpa using hsp, ?_, ?_⟩
 ·have h1 := hget' (n - 1) (by omega)
  rw [List.getElem?_eq_getElem (by omega)] at h1
  have := (Array.getElem?_eq_some_iff.1 h1).1
  omega
 ·apply List.ext_getElem?
  intro i
  rcases Nat.lt_or_ge i n with hi | hi
  ·rw [← hget' i hi, List.getElem?_take, if_pos hi, List.getElem?_drop]; simp
  ·rw [List.getElem?_eq_none (by omega), List.getElem?_take, if_neg (by omega)]
variable {D : Type} {enc : TypeId × Value → D} {base : Nat} {sp : Nat → Bool} {held : Bool}
theorem take_add (l : List Value) (m k d : Nat) : (l.drop d).take (m + k) = (l.drop d).take m ++ (l.drop (d + m)).take k := by
 rw [List.take_add, List.drop_drop]
theorem open_ty (hsp : ∀ b, sp b = true) : ∀ (fuel : Nat) (t : TypeId) (cs : List Value) (x : DataW D × List MemPlace) (m : Nat) (ty : Ty), tyOf P m t = some ty → DataW.trod enc P w base sp held fuel t cs = some x →
  (∀ a l c, Value.slice (some a) l c ∈ cs → 0 < w.heap.size) → ∀ (ρ : Mp) (H : Heap), RelIn P ρ H w → Opened P w ρ H ty cs
 | 0, t, cs, x, m, ty, _, h, _ => by simp [DataW.trod] at h
 | fuel + 1, t, cs, x, 0, ty, hty, _, _ => by simp [tyOf] at hty
 | fuel + 1, t, cs, x, m + 1, ty, hty, h, hz => by
  intro ρ H hr
  unfold tyOf at hty
  split at hty
  ·rename_i k hu
   simp at hty; subst hty
   obtain ⟨n, rfl, _, hw⟩ := DataW.trod_int hu h
   exact ⟨ρ, H, [.int k n], .refl H, .refl ρ, hr, LRel.cons (.int _ _) (LRel.nil ρ), n, [], rfl, hw, rfl⟩
  ·rename_i hu
   simp at hty; subst hty
   obtain ⟨b, rfl, _⟩ := DataW.trod_bool hu h
   exact ⟨ρ, H, [.bool b], .refl H, .refl ρ, hr, LRel.cons (.bool _) (LRel.nil ρ), b, [], rfl, rfl⟩
  ·rename_i hu
   simp at hty; subst hty
   obtain ⟨s, rfl, _, hs⟩ := DataW.trod_string hu h
   exact ⟨ρ, H, [.str s.data.toList], .refl H, .refl ρ, hr, LRel.cons (.str rfl) (LRel.nil ρ), s.data.toList, [], rfl, by rw [← size_list rfl]; exact hs, rfl⟩
  ·rename_i e hu
   split at hty
   case h_2 => simp at hty
   rename_i u hue
   split at hty
   case isFalse => simp at hty
   rename_i hsz
   simp at hty; subst hty
   rcases DataW.trod_slice hu h with ⟨rfl, _⟩ | ⟨a, len, cap, elems, rest, n, hfu, rfl, _, _, hlc, hcap, hlen, hel, hrest, _⟩
   ·exact ⟨ρ, H, [.sl none 0 (.ex 0)], .refl H, .refl ρ, hr, LRel.cons .slN (LRel.nil ρ), _, [], rfl, rfl, ⟨[], Sl.nil H _, by simp, fun _ hx => by simp at hx⟩, rfl⟩
   ·simp at hfu; subst hfu
    have each : ∀ i, i < len → ∃ ci y, w.cells? base (a.add (i * P.cellsOf e)) (P.cellsOf e) = some ci ∧ DataW.trod enc P w base sp held fuel e ci = some y := by
     intro i hi
     have h1 := hel i hi
     rw [List.getElem?_eq_getElem (by omega)] at h1
     simp only [Option.bind_eq_some_iff] at h1
     obtain ⟨ci, q1, q2⟩ := h1
     exact ⟨ci, _, q1, q2⟩
    have hpos : 0 < P.cellsOf e := by rw [hsz.1]; exact hsz.2
    have hzero : 0 < w.heap.size := hz a len cap (by simp)
    rcases Nat.eq_zero_or_pos len with h0 | h0
    ·subst h0
     rcases Nat.eq_zero_or_pos cap with hc0 | hc0
     ·subst hc0
      obtain ⟨hr', hext⟩ := hr.pushX (L := ⟨0, 0, 0⟩) (x := .dead) (by simp) hzero (by simp) (by simp) (by simp)
      exact ⟨_, _, [.sl (some (H.next, 0)) 0 .un], .push _ _, hext, hr', LRel.cons (.slF (upd_same ρ H.next _)) (LRel.nil _), _, [], rfl, rfl, ⟨[], Sl.zero _ _ _ _ trivial, by simp, fun _ hx => by simp at hx⟩, rfl⟩
     ·-- there is room behind: it has been read
      ·obtain ⟨hrl, hrr⟩ := hrest (hsp a.block)
       have h1 := hrr 0 (by omega)
       rw [List.getElem?_eq_getElem (by omega)] at h1
       simp only [Option.bind_eq_some_iff] at h1
       obtain ⟨ci, q1, q2⟩ := h1
       obtain ⟨c, e', fr, g1, g2, g3, g4⟩ := cells_row q1 hpos
       have e0 : a.add ((0 + 0) * P.cellsOf e) = a := by simp [Addr.add]
       rw [e0] at g1 g2
       have g1' : w.heap[a.block]? = some (.cells c e' fr) := g1
       have g2' : a.spot = none := g2
       obtain ⟨hr', hext⟩ := hr.pushX (L := ⟨a.block, a.off, c.size⟩) (x := .dead) (by simp) (lt_of_heap g1') (by simp) (by simp) (by simp)
       have ha : a = ⟨a.block, a.off + 0, none⟩ := by cases a; simp at g2'; simp [g2']
       refine ⟨_, _, [.sl (some (H.next, 0)) 0 .un], .push _ _, hext, hr', LRel.cons ?_ (LRel.nil _), _, [], rfl, rfl, ⟨[], Sl.zero _ _ _ _ trivial, by simp, fun _ hx => by simp at hx⟩, rfl⟩
       rw [ha]
       exact .slU (L := ⟨a.block, a.off, c.size⟩) (upd_same ρ H.next _) (Nat.zero_le _)
    ·have rows : ∀ k, k ≤ len → ∃ (ρ' : Mp) (H' : Heap) (acss : List (List AVal)), Keeps2 H H' ∧ Ext ρ ρ' ∧ RelIn P ρ' H' w ∧ acss.length = k ∧ (∀ x ∈ acss, Wf H' u x) ∧
       ∀ i ci, i < k → w.cells? base (a.add (i * P.cellsOf e)) (P.cellsOf e) = some ci → ∃ x, acss[i]? = some x ∧ LRel ρ' x ci := by
      intro k
      induction k with
      | zero => intro _; exact ⟨ρ, H, [], .refl H, .refl ρ, hr, rfl, fun _ hx => by simp at hx, fun i ci hi => by omega⟩
      | succ k ih =>
       intro hk
       obtain ⟨ρ1, H1, acss, k1, e1, r1, l1, w1, g1⟩ := ih (by omega)
       obtain ⟨ck, y, q1, q2⟩ := each k (by omega)
       obtain ⟨ρ2, H2, acs, k2, e2, r2, l2, w2⟩ := open_ty hsp fuel e ck y m u hue q2 (fun _ _ _ _ => hzero) ρ1 H1 r1
       refine ⟨ρ2, H2, acss ++ [acs], k1.trans k2, e1.trans e2, r2, by simp [l1], fun x hx => ?_, fun i ci hi hci => ?_⟩
       ·rcases List.mem_append.1 hx with hx | hx
        ·exact Wf.keep k2 (w1 x hx)
        ·simp at hx; subst hx; exact w2
       ·rcases Nat.lt_or_ge i k with hik | hik
        ·obtain ⟨x, p1, p2⟩ := g1 i ci hik hci
         exact ⟨x, by rw [List.getElem?_append_left (by omega)]; exact p1, p2.ext e2⟩
        ·have : i = k := by omega
         subst this
         rw [q1] at hci; simp at hci; subst hci
         exact ⟨acs, by rw [List.getElem?_append_right (by omega)]; simp [l1], l2⟩
     obtain ⟨ρ1, H1, acss, k1, e1, r1, l1, w1, g1⟩ := rows len (Nat.le_refl _)
     obtain ⟨c0, y0, q0, _⟩ := each 0 h0
     obtain ⟨c, e', fr, a1, a2, a3, a4⟩ := cells_row q0 hpos
     have e0 : a.add (0 * P.cellsOf e) = a := by simp [Addr.add]
     rw [e0] at a1 a2
     have a1' : w.heap[a.block]? = some (.cells c e' fr) := a1
     have a2' : a.spot = none := a2
     have hw : ∀ x ∈ acss, x.length = u.size := fun x hx => Wf.len (w1 x hx)
     have rowAt : ∀ i, i < len → w.cells? base (a.add (i * P.cellsOf e)) (P.cellsOf e) = some ((c.toList.drop (a.off + i * u.size)).take u.size) ∧ a.off + (i + 1) * u.size ≤ c.size := by
      intro i hi
      obtain ⟨ci, y, q1, _⟩ := each i hi
      obtain ⟨c', e2, fr2, b1, b2, b3, b4⟩ := cells_row q1 hpos
      rw [add_block] at b1
      rw [add_off] at b3 b4
      have b1' : w.heap[a.block]? = some (.cells c' e2 fr2) := b1
      rw [a1'] at b1'; simp at b1'; obtain ⟨rfl, rfl, rfl⟩ := b1'
      have b3' : a.off + i * P.cellsOf e + P.cellsOf e ≤ c.size := b3
      have b4' : ci = (c.toList.drop (a.off + i * P.cellsOf e)).take (P.cellsOf e) := b4
      rw [q1, b4', hsz.1]
      rw [hsz.1] at b3'
      exact ⟨rfl, by rw [Nat.succ_mul]; omega⟩
     have flat : ∀ k, k ≤ len → LRel ρ1 (acss.take k).flatten ((c.toList.drop a.off).take (k * u.size)) := by
      intro k
      induction k with
      | zero => intro _; simpa using LRel.nil ρ1
      | succ k ih =>
       intro hk
       obtain ⟨x, p1, p2⟩ := g1 k _ (by omega) (rowAt k (by omega)).1
       rw [List.take_add_one, p1, Nat.succ_mul, take_add]
       simp only [Option.toList_some, List.flatten_append, List.flatten_cons, List.flatten_nil, List.append_nil]
       exact LRel.append (ih (by omega)) p2
     have hfl := flat len (Nat.le_refl _)
     rw [← l1, List.take_length] at hfl
     have hflen := flatten_len hw
     obtain ⟨hr', hext⟩ := r1.pushX (L := ⟨a.block, a.off, c.size⟩) (x := .cells acss.flatten) (fun cs hcs => by simp at hcs; subst hcs; exact flat_flatten fun x hx => Wf.flat (w1 x hx)) (lt_of_heap a1') (by simp) (by simp) (fun cs hcs => by
      simp at hcs; subst hcs
      refine ⟨c, e', fr, a1', rfl, ?_, by rw [hflen]; exact hfl⟩
      have := (rowAt (len - 1) (by omega)).2
      rw [show len - 1 + 1 = len by omega] at this
      rw [hflen, l1]; exact this)
     have kk : Keeps2 H1 (H1.push (.cells acss.flatten)) := .push _ _
     have ha : a = ⟨a.block, a.off + 0, none⟩ := by cases a; simp at a2'; simp [a2']
     refine ⟨_, _, [.sl (some (H1.next, 0)) len .un], k1.trans kk, e1.trans hext, hr', LRel.cons ?_ (LRel.nil _), _, [], rfl, rfl, ⟨acss, ?_, by omega, fun x hx => Wf.keep kk (w1 x hx)⟩, rfl⟩
     ·rw [ha]
      exact .slU (L := ⟨a.block, a.off, c.size⟩) (upd_same ρ1 H1.next _) hlc
     ·refine ⟨.inr ⟨H1.next, 0, .un, acss.flatten, by rw [l1], trivial, cells_push_new _ _, by rw [hflen]; omega, ?_⟩, hw⟩
      rw [List.drop_zero, List.take_of_length_le (by omega)]
  ·rename_i fs hu
   split at hty
   case h_2 => simp at hty
   rename_i u hfs
   split at hty
   case isFalse => simp at hty
   rename_i hsz
   simp at hty; subst hty
   obtain ⟨xs, n, hfu, _, hcl, hxl, hget⟩ := DataW.trod_struct hu h
   simp at hfu; subst hfu
   have go : ∀ (l : List Field) (k off : Nat) (ty : Ty), fs.toList.drop k = l → tyFields P (tyOf P m) off l = some ty → off + ty.size = cs.length → ∀ (ρ : Mp) (H : Heap), RelIn P ρ H w → Opened P w ρ H ty (cs.drop off) := by
    intro l
    induction l with
    | nil =>
     intro k off ty _ ht hl ρ H hr
     simp [tyFields] at ht; subst ht
     have : off = cs.length := by simpa [Ty.size] using hl
     subst this
     exact ⟨ρ, H, [], .refl H, .refl ρ, hr, by rw [List.drop_length]; exact LRel.nil ρ, rfl⟩
    | cons fd l ih =>
     intro k off ty hd ht hl ρ H hr
     unfold tyFields at ht
     split at ht
     case h_2 => simp at ht
     rename_i t1 r1 ht1 hr1
     split at ht
     case isFalse => simp at ht
     rename_i hoff
     simp at ht; subst ht
     rw [Ty.size_app] at hl
     have hk : fs[k]? = some fd := by
      have : (fs.toList.drop k)[0]? = some fd := by rw [hd]; rfl
      rw [List.getElem?_drop] at this
      simpa using this
     have hg := hget k fd hk
     have hkl : k < xs.length := by
      rw [hxl]
      exact (Array.getElem?_eq_some_iff.1 hk).1
     rw [List.getElem?_eq_getElem hkl, hoff.1] at hg
     obtain ⟨ρ1, H1, acs, k1, e1, r1', l1, w1⟩ := open_ty hsp fuel fd.type _ _ m t1 ht1 hg (fun a l c hm => hz a l c (List.mem_of_mem_drop (List.mem_of_mem_take hm))) ρ H hr
     have hd' : fs.toList.drop (k + 1) = l := by
      rw [← List.drop_drop, hd]; rfl
     obtain ⟨ρ2, H2, acs2, k2, e2, r2', l2, w2⟩ := ih (k + 1) (off + P.cellsOf fd.type) r1 hd' hr1 (by rw [hoff.2]; omega) ρ1 H1 r1'
     refine ⟨ρ2, H2, acs ++ acs2, k1.trans k2, e1.trans e2, r2', ?_, Wf.app (Wf.keep k2 w1) w2⟩
     have hsplit : cs.drop off = (cs.drop off).take (P.cellsOf fd.type) ++ cs.drop (off + P.cellsOf fd.type) := by
      rw [← List.drop_drop, List.take_append_drop]
     rw [hsplit]
     exact LRel.append (l1.ext e2) l2
   have := go fs.toList 0 0 u (by simp) hfs (by omega) ρ H hr
   simpa using this
  ·rename_i k e hu
   split at hty
   case h_2 => simp at hty
   rename_i u hue
   split at hty
   case isFalse => simp at hty
   rename_i hsz
   simp at hty; subst hty
   obtain ⟨xs, n, hfu, _, hcl, hxl, hget⟩ := DataW.trod_array hu h
   simp at hfu; subst hfu
   have go : ∀ (j : Nat), j ≤ k → ∀ (ρ : Mp) (H : Heap), RelIn P ρ H w → Opened P w ρ H (u.rep j) (cs.drop ((k - j) * u.size)) := by
    intro j
    induction j with
    | zero =>
     intro _ ρ H hr
     refine ⟨ρ, H, [], .refl H, .refl ρ, hr, ?_, rfl⟩
     rw [List.drop_eq_nil_of_le (by rw [hcl, hsz.2]; exact Nat.le_refl _)]
     exact LRel.nil ρ
    | succ j ih =>
     intro hj ρ H hr
     have hg := hget (k - (j + 1)) (by omega)
     rw [List.getElem?_eq_getElem (by omega), hsz.1] at hg
     obtain ⟨ρ1, H1, acs, k1, e1, r1', l1, w1⟩ := open_ty hsp fuel e _ _ m u hue hg (fun a l c hm => hz a l c (List.mem_of_mem_drop (List.mem_of_mem_take hm))) ρ H hr
     obtain ⟨ρ2, H2, acs2, k2, e2, r2', l2, w2⟩ := ih (by omega) ρ1 H1 r1'
     refine ⟨ρ2, H2, acs ++ acs2, k1.trans k2, e1.trans e2, r2', ?_, Wf.app (Wf.keep k2 w1) w2⟩
     have he : (k - j) * u.size = (k - (j + 1)) * u.size + u.size := by
      rw [← Nat.succ_mul]; congr 1; omega
     have hsplit : cs.drop ((k - (j + 1)) * u.size) = (cs.drop ((k - (j + 1)) * u.size)).take u.size ++ cs.drop ((k - j) * u.size) := by
      rw [he, ← List.drop_drop, List.take_append_drop]
     rw [hsplit]
     exact LRel.append (l1.ext e2) l2
   have := go k (Nat.le_refl _) ρ H hr
   simpa using this
  ·simp at hty
end
end Go.Ahs
