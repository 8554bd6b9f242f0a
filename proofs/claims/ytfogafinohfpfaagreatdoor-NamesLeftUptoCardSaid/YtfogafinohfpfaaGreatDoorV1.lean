/- The program's ranges over functions: which one a number is. -/
import Derived.Test.YtfogafinohfpfaaGreatDoorV0
import Derived.Test.YtfogafinohfpfaaGreatDoorChecked
namespace Go.Proofs.YtfogafinohfpfaaGreatDoorV
/-- The first region's number. -/
def fid : Code → Nat
  | .region id _ _ => id
  | .seq a _ => fid a
  | .block _ c => fid c
  | .loop c => fid c
  | .cond _ x _ => fid x
  | _ => 0

/-- A range's number: that of its first region. -/
def lkey (assign body : Code) : Nat := match fid assign with
  | 0 => fid body
  | k => k

abbrev LCode := Array Tmp × Code × Code

def findLoop (i : Nat) : Code → Option LCode
  | .seq a b => match findLoop i a with
    | some p => some p
    | none => findLoop i b
  | .loop c => findLoop i c
  | .block _ c => findLoop i c
  | .cond _ x y => match findLoop i x with
    | some p => some p
    | none => findLoop i y
  | .rangeFunc _ ps assign body => if lkey assign body = i then some (ps, assign, body) else none
  | _ => none

/-- A function's range, by the round's number. -/
noncomputable def LA (id : Nat) : Option LCode := match Tryz.prog.funcs[id % 1000000]? with
  | some fn => match fn.body with
    | some c => findLoop (id / 1000000 - 1) c
    | none => none
  | none => none
end Go.Proofs.YtfogafinohfpfaaGreatDoorV
