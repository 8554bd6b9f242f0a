/- What functions of Go's library hand back: in the words of the kit's shelf. -/
import Derived.Test.YtfogafinohfpfaaGreatDoorVx
import Derived.Lib.Bytealg
import Derived.Lib.LastIndexByte
import Derived.Lib.Repeat
import Derived.Lib.ItoaNum
import Derived.Lib.IndexMore
import Derived.Lib.IndexBytes
import Derived.Lib.Join
namespace Go.Proofs.YtfogafinohfpfaaGreatDoorV
set_option linter.unusedVariables false
noncomputable def strings_IndexByte (N : Nat) (s : ByteArray) (c : Int) : Option Int := some (Lib.indexByte s.data.toList c.toNat.toUInt8)
noncomputable def strings_LastIndexByte (N : Nat) (s : ByteArray) (c : Int) : Option Int := if s.size < 4611686018427387904 then some (Lib.lastIndexByte s c) else none
/-- Of one byte. -/
noncomputable def strings_Count (N : Nat) (s x : ByteArray) : Option Int := match x.data.toList with
  | [c] => some (Lib.countByte s.data.toList c : Nat)
  | _ => none
noncomputable def strings_Repeat (N : Nat) (s : ByteArray) (c : Int) : Option ByteArray :=
  if 0 ≤ c ∧ c ≤ 9223372036854775807 ∧ s.size * c.toNat ≤ 140737488355328 then some ⟨(Lib.repeatL s.data.toList c.toNat).toArray⟩ else none
noncomputable def strconv_Itoa (N : Nat) (n : Int) : Option ByteArray :=
  if -9223372036854775808 ≤ n ∧ n ≤ 9223372036854775807 then some ⟨(Lib.itoa n).toArray⟩ else none
noncomputable def strings_Contains (N : Nat) (s x : ByteArray) : Option Bool := if s.size < 4294967281 ∨ x.data.toList.length = 1 then some (Lib.contains s.data.toList x.data.toList) else none
noncomputable def strings_Index (N : Nat) (s x : ByteArray) : Option Int := if s.size < 4294967281 ∨ x.data.toList.length = 1 then some (Lib.index s.data.toList x.data.toList) else none
noncomputable def strings_Join (N : Nat) (xs : List ByteArray) (sep : ByteArray) : Option ByteArray :=
  if xs.length ≤ 140737488355328 ∧ (Lib.join (xs.map (·.data.toList)) sep.data.toList).length ≤ 140737488355328 then some ⟨(Lib.join (xs.map (·.data.toList)) sep.data.toList).toArray⟩ else none
/-- Texts in their order. -/
def sortB (xs : List ByteArray) : List ByteArray := ((xs.map (·.data.toList)).mergeSort fun x y => decide (x ≤ y)).map fun l => ⟨l.toArray⟩
noncomputable def slices_Sort (N : Nat) (xs : List ByteArray) : Option (List ByteArray) := if xs.length < 4611686018427387904 then some (sortB xs) else none
end Go.Proofs.YtfogafinohfpfaaGreatDoorV
