/- Short words for compiled functions. -/
import Derived.Test.YtnlimogbokkfpaaGreatChsA1
namespace Go.Ahs.T
open Go.Ahs
def t (n : Nat) : Opd := .tmp n
def i (n : Int) : Opd := .val (.int .i64 n)
def u (n : Int) : Opd := .val (.int .u8 n)
def w (n : Int) : Opd := .val (.int .u64 n)
def tt : Opd := .val (.bool true)
def ff : Opd := .val (.bool false)
def o (d : Nat) (p : Aop) : AOper := ⟨some d, p, none, false, []⟩
def l (d : Nat) (p : Aop) : AOper := ⟨some d, p, none, true, []⟩
def s (p : Aop) : AOper := ⟨none, p, none, false, []⟩
def m (d x : Nat) : AOper := ⟨some d, .mov (.tmp x), none, false, []⟩
def gt (g d : Nat) (p : Aop) : AOper := ⟨some d, p, some (g, true), false, []⟩
def gf (g d : Nat) (p : Aop) : AOper := ⟨some d, p, some (g, false), false, []⟩
def ht (g d : Nat) (p : Aop) : AOper := ⟨some d, p, some (g, true), true, []⟩
def hf (g d : Nat) (p : Aop) : AOper := ⟨some d, p, some (g, false), true, []⟩
end Go.Ahs.T
