/- What the functions that range over maps are known to come to. -/
import Derived.Test.YtbhnnbcdhneolaaGreatGtAp
import Derived.Test.YtbhnnbcdhneolaaGreatChsP5
import Derived.Test.YtbhnnbcdhneolaaGreatChsA22
set_option maxRecDepth 100000
set_option linter.unusedSimpArgs false
set_option linter.unusedVariables false
namespace Go.Proofs.YtbhnnbcdhneolaaGreat.gate
open Go.Ahs

/-- The entries of a map of principals whose slot is so, or not. -/
def slotOf : AVal → Option Int
  | .agg [.int .u8 a, .int .u8 _] => some a
  | _ => none
def tokLs : List Leaf := [.int .u8, .int .u8, .int .u8, .int .u8, .int .u8, .int .u8, .int .u8, .int .u8]
def isTok : AVal → Bool
  | .agg cs => cs.length == 8 && cs.all (·.one)
  | _ => false
def entOK (e : AVal × AVal) : Bool := (slotOf e.2).isSome && keyEq true tokLs e.1 e.1 == some true && isTok e.1
def apartE : List (AVal × AVal) → Bool
  | [] => true
  | e :: es => es.all (fun f => keyEq true tokLs e.1 f.1 == some false && keyEq true tokLs f.1 e.1 == some false) && apartE es
def esOK (es : List (AVal × AVal)) : Bool := es.all entOK && apartE es

def g211 (_ : Nat) (args : List AVal) (H : Heap) : Option (AVal × Heap) :=
  match args with
  | [.ptr (some (c, 0)), .int .u8 s] =>
    match H.cells c with
    | some cs => match cs[16]? with
      | some m => match mapEs H m with
        | some es => if (esOK es && decide (es.length < 1000)) = true then some (.int .i64 (es.countP fun e => slotOf e.2 == some s), pushDead es.length H) else none
        | none => none
      | none => none
    | none => none
  | _ => none

def g212 (lim : Nat) (args : List AVal) (H : Heap) : Option (AVal × Heap) :=
  match args with
  | [.map (some m), .fn 213 [] [p]] =>
    match aload H none p, H.get m with
    | some (.int .u8 s), some (.map es clock) =>
      if lim ≤ m ∧ esOK es = true then some (.tup [], pushDead (4 * es.length) (H.set m (.map (es.filter fun e => !(slotOf e.2 == some s)) clock))) else none
    | _, _ => none
  | _ => none

end Go.Proofs.YtbhnnbcdhneolaaGreat.gate
