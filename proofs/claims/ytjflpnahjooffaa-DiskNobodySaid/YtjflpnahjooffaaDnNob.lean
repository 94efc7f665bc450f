/- DiskNobody: on a nil disk and one that New did not make nothing hangs on the texts. -/
import Derived.Test.YtjflpnahjooffaaDkRun
import Derived.Test.YtjflpnahjooffaaDnAp
import Derived.Test.YtjflpnahjooffaaChsO3
import Derived.Test.YtjflpnahjooffaaChsA20
import Derived.Test.YtjflpnahjooffaaChsP6
set_option maxRecDepth 100000
set_option linter.unusedSimpArgs false
set_option linter.unusedVariables false
namespace Go.Proofs.Ytjflpnahjooffaa.disknob
open Go.Ahs

theorem awake_runs : isTrue (run (tab disk.fnsX) 60 0 38 [] Heap.empty) = true := fast_run (k := 8) (T := disk.tree) rfl disk.all_ok (by kernel_rfl)
def gTrue (_ : Nat) (args : List AVal) (H : Heap) : Option (AVal × Heap) := match args with | [] => some (.bool true, H) | _ => none
theorem awake_ok : FnOK Try.prog 38 (.prim gTrue) := by
  obtain ⟨H0, h⟩ := isTrue_inv awake_runs
  exact PrimOK.closed Try.checked.mixed disk.k.ap_ok h rfl
def fnsX : List (Nat × AFn) := (38, .prim gTrue) :: fns
theorem fnsX_ok : AllOK Try.prog fnsX := ⟨awake_ok, fns_ok⟩
theorem apX_ok : ∀ f af, tab fnsX f = some af → FnOK Try.prog f af := tab_ok fnsX_ok

section
variable {R : Caller} {lim n : Nat}
theorem x_off {o : AOper} {os : List AOper} {s : St} {X : Option St} (hw : wantedA s.tmps o.guard = false) (hk : Ahs.execOps R lim os ⟨putT s.tmps o.dst und, s.H⟩ = X) : Ahs.execOps R lim (o :: os) s = X := by
  rw [← hk]
  unfold Ahs.execOps Ahs.execOp
  simp only [hw, Bool.false_eq_true, if_false]
  cases os <;> rfl
theorem x_on {o : AOper} {os : List AOper} {s : St} {X : Option St} {v : AVal} (hw : wantedA s.tmps o.guard = true) (ha : o.apart = []) (hb : o.bar = false) (r : Option AVal) (ho : Ahs.step R lim (St.ev s.tmps) s.H o.op = val s.H r) (hr : r = some v) (hk : Ahs.execOps R lim os ⟨putT s.tmps o.dst v, s.H⟩ = X) : Ahs.execOps R lim (o :: os) s = X := by
  rw [← hk]
  unfold Ahs.execOps Ahs.execOp
  rw [hr] at ho
  have h : Ahs.step R lim (St.ev s.tmps) s.H o.op = some (v, s.H) := by rw [ho]; rfl
  simp only [hw, if_true, AOper.clear, ha, Bool.not_true, Bool.false_eq_true, if_false, hb, h]
  cases os <;> rfl
def fin (R : Caller) (lim n : Nat) (A rest : ACode) (s2 : St) : Bool → Option (Ex × St)
  | true => Ahs.exec R lim n (.seq A rest) s2
  | false => Ahs.exec R lim n rest s2
theorem guard_exec {r1 r2 : List AOper} {A rest : ACode} {c : Opd} {s s1 s2 : St} {t : Bool} (h1 : Ahs.execOps R lim r1 s = some s1) (h2 : Ahs.execOps R lim r2 s1 = some s2) (h3 : St.ev s2.tmps c = .bool t) :
    Ahs.exec R lim n (.seq (.region r1) (.seq (.seq (.region r2) (.cond c A .skip)) rest)) s = fin R lim n A rest s2 t := by
  cases t <;> simp only [Ahs.exec, h1, h2, h3, Option.map_some, fin, if_true, Bool.false_eq_true, if_false]
end

def tmps (a b : List UInt8) (n : Int) (v18 v19 v20 : AVal) (p t : Bool) : List AVal :=
  [.str a, .str b, .int .i64 n, und, und, und, .bool false, und, und, und, und, und, und, und, .str a, .int .i64 a.length, .bool p, .bool p, v18, v19, v20, .bool t] ++ List.replicate 95 und

def outcome (a b : List UInt8) (n : Int) (v18 v19 v20 : AVal) (p t : Bool) : Option (AVal × Heap) :=
  match f13.body with
  | .seq _ (.seq (.seq _ (.cond _ A .skip)) rest) =>
    match fin (Ahs.runT (tab fnsX) 59) 0 59 A rest ⟨tmps a b n v18 v19 v20 p t, Heap.empty⟩ t with
    | some (.exit _, _) => none
    | some (_, s) => leaveF f13 s
    | none => none
  | _ => none

theorem out_true (a b : List UInt8) (n : Int) (v18 v19 v20 : AVal) (p : Bool) : isTrue (outcome a b n v18 v19 v20 p true) = true := by kernel_rfl
theorem out_false (a b : List UInt8) (n : Int) (v18 v19 v20 : AVal) (p : Bool) : isTrue (outcome a b n v18 v19 v20 p false) = true := by kernel_rfl

set_option maxHeartbeats 4000000 in
theorem runs (a b : List UInt8) (n : Int) : isTrue (run (tab fnsX) 60 0 13 [.str a, .str b, .int .i64 n] Heap.empty) = true := by
  have h0 : Ahs.execOps (Ahs.runT (tab fnsX) 59) 0 [⟨some 6, .mov (.val (.bool false)), none, false, []⟩] ⟨enterF f13 [.str a, .str b, .int .i64 n], Heap.empty⟩ = some ⟨[.str a, .str b, .int .i64 n, und, und, und, .bool false] ++ List.replicate 110 und, Heap.empty⟩ := by kernel_rfl
  have hrun : ∀ (r2 : List AOper) (A rest : ACode) (c : Opd), f13.body = .seq (.region [⟨some 6, .mov (.val (.bool false)), none, false, []⟩]) (.seq (.seq (.region r2) (.cond c A .skip)) rest) → ∀ v18 v19 v20 p t,
      Ahs.execOps (Ahs.runT (tab fnsX) 59) 0 r2 ⟨[.str a, .str b, .int .i64 n, und, und, und, .bool false] ++ List.replicate 110 und, Heap.empty⟩ = some ⟨tmps a b n v18 v19 v20 p t, Heap.empty⟩ → St.ev (tmps a b n v18 v19 v20 p t) c = .bool t →
      run (tab fnsX) 60 0 13 [.str a, .str b, .int .i64 n] Heap.empty = outcome a b n v18 v19 v20 p t := by
    intro r2 A rest c hb v18 v19 v20 p t h2 h3
    unfold outcome
    rw [hb]
    show Ahs.runT (tab fnsX) (59 + 1) 0 (.fn 13) _ _ = _
    have hf : tab fnsX 13 = some (.code f13) := rfl
    simp only [Ahs.runT, hf, hb, guard_exec h0 h2 h3]
    generalize fin _ _ _ _ _ _ _ = o
    cases o with
    | none => rfl
    | some q => obtain ⟨ex, s⟩ := q; cases ex <;> rfl
  cases hp : decide ((2000 : Int) < (a.length : Int)) with
  | true =>
    rw [hrun _ _ _ _ rfl und und und true true ?_ rfl]
    · exact out_true a b n und und und true
    · refine x_v rfl rfl rfl _ rfl rfl ?_
      refine x_v rfl rfl rfl _ rfl rfl ?_
      refine x_v (v := .bool true) rfl rfl rfl _ rfl (by show abin .gtr (.int .i64 a.length) (.int .i64 2000) = _; rw [abin_gtr, hp]) ?_
      refine x_v rfl rfl rfl _ rfl rfl ?_
      refine x_off rfl (x_off rfl (x_off rfl ?_))
      refine x_v rfl rfl rfl _ rfl rfl ?_
      exact x_nil
  | false =>
    cases hq : decide ((2000 : Int) < (b.length : Int)) with
    | true =>
      rw [hrun _ _ _ _ rfl (.str b) (.int .i64 b.length) (.bool true) false true ?_ rfl]
      · exact out_true a b n _ _ _ false
      · refine x_v rfl rfl rfl _ rfl rfl ?_
        refine x_v rfl rfl rfl _ rfl rfl ?_
        refine x_v (v := .bool false) rfl rfl rfl _ rfl (by show abin .gtr (.int .i64 a.length) (.int .i64 2000) = _; rw [abin_gtr, hp]) ?_
        refine x_v rfl rfl rfl _ rfl rfl ?_
        refine x_on rfl rfl rfl _ rfl rfl (x_on rfl rfl rfl _ rfl rfl (x_on (v := .bool true) rfl rfl rfl _ rfl ?_ ?_))
        · show abin .gtr (.int .i64 b.length) (.int .i64 2000) = _
          rw [abin_gtr, hq]
        refine x_v rfl rfl rfl _ rfl rfl ?_
        exact x_nil
    | false =>
      rw [hrun _ _ _ _ rfl (.str b) (.int .i64 b.length) (.bool false) false false ?_ rfl]
      · exact out_false a b n _ _ _ false
      · refine x_v rfl rfl rfl _ rfl rfl ?_
        refine x_v rfl rfl rfl _ rfl rfl ?_
        refine x_v (v := .bool false) rfl rfl rfl _ rfl (by show abin .gtr (.int .i64 a.length) (.int .i64 2000) = _; rw [abin_gtr, hp]) ?_
        refine x_v rfl rfl rfl _ rfl rfl ?_
        refine x_on rfl rfl rfl _ rfl rfl (x_on rfl rfl rfl _ rfl rfl (x_on (v := .bool false) rfl rfl rfl _ rfl ?_ ?_))
        · show abin .gtr (.int .i64 b.length) (.int .i64 2000) = _
          rw [abin_gtr, hq]
        refine x_v rfl rfl rfl _ rfl rfl ?_
        exact x_nil

theorem walk (H : Heap) (xs : List AVal) (h : WfArgs H [(false, .str .nil), (false, .str .nil), (false, .int .i64 .nil)] xs) : xs.all flatV = true ∧ ∃ n, isTrue (run (tab fnsX) n 0 13 xs Heap.empty) = true := by
  obtain ⟨a, _, rfl, h1, b, _, rfl, h2, c, _, rfl, h3, rfl⟩ := h
  rw [if_neg (by decide)] at h1 h2 h3
  obtain ⟨s, _, e1, _, rfl⟩ := h1
  obtain ⟨t, _, e2, _, rfl⟩ := h2
  obtain ⟨m, _, e3, _, rfl⟩ := h3
  simp only [List.cons.injEq, and_true] at e1 e2 e3
  subst e1 e2 e3
  exact ⟨rfl, 60, runs s t m⟩
end Go.Proofs.Ytjflpnahjooffaa.disknob
