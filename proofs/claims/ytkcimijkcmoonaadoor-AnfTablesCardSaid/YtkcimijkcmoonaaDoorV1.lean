/- No range over a function is met here. -/
import Derived.Test.YtkcimijkcmoonaaDoorV0
import Derived.Orders
namespace Go.Proofs.YtkcimijkcmoonaaDoorV
def fid : Code → Nat
  | .region id _ _ => id
  | .seq a _ => fid a
  | .block _ c => fid c
  | .loop c => fid c
  | .cond _ x _ => fid x
  | _ => 0
def lkey (assign body : Code) : Nat := match fid assign with
  | 0 => fid body
  | k => k
abbrev LCode := Array Tmp × Code × Code
def findLoop (i : Nat) : Code → Option LCode
  | .seq a b => match findLoop i a with
    | some p => some p
    | none => findLoop i b
  | .loop c => findLoop i c
  | .block _ c => findLoop i c
  | .cond _ x y => match findLoop i x with
    | some p => some p
    | none => findLoop i y
  | .rangeFunc _ ps assign body => if lkey assign body = i then some (ps, assign, body) else none
  | _ => none
noncomputable def LA (id : Nat) : Option LCode := none
end Go.Proofs.YtkcimijkcmoonaaDoorV
