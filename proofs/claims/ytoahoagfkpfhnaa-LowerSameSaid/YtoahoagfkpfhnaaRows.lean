/-
  No cell of these rows narrows 'for every input' (looked for: loops, veiled, ifaces, maps, wideKeys, modest, calm, conditions, laid).
  DERIVED. THE GIVEN ROWS OF THIS SEAT. 6 by the template 'for every input the law returns true; each argument reads behind the call as it read before'; 0 by the template 'total and deterministic' (their statements: YtoahoagfkpfhnaaTotals.lean).
  GIVEN WITH THE SEED: the statements are not yours to turn. If you find one false, say at which input.
  Laid BY PROGRAM, IN A SANDBOX (cutbox-rows.mjs): the forced cells as the released guide's own fill.sh prints them over the translation c639bbdffab76ecd… (all of the seat's roots in one cut). By AI agents, Wed Nov 11 2026. No macro, syntax, notation, axiom, sorry.
-/
import Derived.Test.YtoahoagfkpfhnaaChecked
import GoSem.Claim
import GoSem.ClaimJoined
import GoSem.ClaimMapViews
import Derived.JoinedTies
import Derived.KernelRfl
namespace Go.Proofs.Ytoahoagfkpfhnaa
/- THE CELL 'sum', in the pinned program and in every row, IS THE sha256 OF THE DUMP (.gsa) THAT YtoahoagfkpfhnaaProg.lean LOADS. Nothing in Lean hashes anything: it is a label: what it is worth is what the hold of that sum in a sandbox is worth. -/
noncomputable def Try.pinned : Pinned := { name := "ytoahoagfkpfhnaa", sum := "c639bbdffab76ecd6ee88fcd10dcb1e050689b9e8cfcc35d13cdbf7511b959b3", checked := Try.checked }
namespace Rows
def none {H : Type} : Left H := { results := [], args := [] }

/-- 'bautalaw31.HexfileBytes': WHATEVER THE INPUT: true; the input reads as it did. -/
def hexfileBytesSpec : ChangeSpec := { name := "hexfileBytes", fn := fun _ => fun
  | [d] => { results := [.lit (.bool true)], args := [d] }
  | _ => none }
def hexfileBytesRow : OpenClaim := { program := "ytoahoagfkpfhnaa", sum := "c639bbdffab76ecd6ee88fcd10dcb1e050689b9e8cfcc35d13cdbf7511b959b3", func := "bauta/bautalaw31.HexfileBytes", spec := "hexfileBytes", inPlace := ["internal/abi.NoEscape"], apart := false }
def HexfileBytesSaid : Prop := hexfileBytesRow.holds Try.pinned (OpenSpec.ofChange hexfileBytesSpec)

/-- ITS FALSE NEIGHBOUR: 'it returns false'. Refute it at one input. -/
def hexfileBytesWrong : ChangeSpec := { name := "hexfileBytes", fn := fun _ => fun
  | [d] => { results := [.lit (.bool false)], args := [d] }
  | _ => none }
def HexfileBytesWrongFalsely : Prop := hexfileBytesRow.holds Try.pinned (OpenSpec.ofChange hexfileBytesWrong)

/-- 'bautalaw31.HexfileFlats': WHATEVER THE INPUT: true; the input reads as it did. -/
def hexfileFlatsSpec : ChangeSpec := { name := "hexfileFlats", fn := fun _ => fun
  | [d1, d2, d3] => { results := [.lit (.bool true)], args := [d1, d2, d3] }
  | _ => none }
def hexfileFlatsRow : OpenClaim := { program := "ytoahoagfkpfhnaa", sum := "c639bbdffab76ecd6ee88fcd10dcb1e050689b9e8cfcc35d13cdbf7511b959b3", func := "bauta/bautalaw31.HexfileFlats", spec := "hexfileFlats", inPlace := ["internal/abi.NoEscape"], apart := false }
def HexfileFlatsSaid : Prop := hexfileFlatsRow.holds Try.pinned (OpenSpec.ofChange hexfileFlatsSpec)

/-- ITS FALSE NEIGHBOUR: 'it returns false'. Refute it at one input. -/
def hexfileFlatsWrong : ChangeSpec := { name := "hexfileFlats", fn := fun _ => fun
  | [d1, d2, d3] => { results := [.lit (.bool false)], args := [d1, d2, d3] }
  | _ => none }
def HexfileFlatsWrongFalsely : Prop := hexfileFlatsRow.holds Try.pinned (OpenSpec.ofChange hexfileFlatsWrong)

/-- 'bautalaw16.LowerCircuits': WHATEVER THE INPUT: true; the input reads as it did. -/
def lowerCircuitsSpec : ChangeSpec := { name := "lowerCircuits", fn := fun _ => fun
  | [d] => { results := [.lit (.bool true)], args := [d] }
  | _ => none }
def lowerCircuitsRow : OpenClaim := { program := "ytoahoagfkpfhnaa", sum := "c639bbdffab76ecd6ee88fcd10dcb1e050689b9e8cfcc35d13cdbf7511b959b3", func := "bauta/bautalaw16.LowerCircuits", spec := "lowerCircuits", unfollowed := true, recurses := true, apart := false }
def LowerCircuitsSaid : Prop := lowerCircuitsRow.holds Try.pinned (OpenSpec.ofChange lowerCircuitsSpec)

/-- ITS FALSE NEIGHBOUR: 'it returns false'. Refute it at one input. -/
def lowerCircuitsWrong : ChangeSpec := { name := "lowerCircuits", fn := fun _ => fun
  | [d] => { results := [.lit (.bool false)], args := [d] }
  | _ => none }
def LowerCircuitsWrongFalsely : Prop := lowerCircuitsRow.holds Try.pinned (OpenSpec.ofChange lowerCircuitsWrong)

/-- 'bautalaw16.LowerSame': WHATEVER THE INPUT: true; the input reads as it did. -/
def lowerSameSpec : ChangeSpec := { name := "lowerSame", fn := fun _ => fun
  | [d1, d2, d3] => { results := [.lit (.bool true)], args := [d1, d2, d3] }
  | _ => none }
def lowerSameRow : OpenClaim := { program := "ytoahoagfkpfhnaa", sum := "c639bbdffab76ecd6ee88fcd10dcb1e050689b9e8cfcc35d13cdbf7511b959b3", func := "bauta/bautalaw16.LowerSame", spec := "lowerSame", unfollowed := true, recurses := true, apart := false }
def LowerSameSaid : Prop := lowerSameRow.holds Try.pinned (OpenSpec.ofChange lowerSameSpec)

/-- ITS FALSE NEIGHBOUR: 'it returns false'. Refute it at one input. -/
def lowerSameWrong : ChangeSpec := { name := "lowerSame", fn := fun _ => fun
  | [d1, d2, d3] => { results := [.lit (.bool false)], args := [d1, d2, d3] }
  | _ => none }
def LowerSameWrongFalsely : Prop := lowerSameRow.holds Try.pinned (OpenSpec.ofChange lowerSameWrong)

/-- 'bautalaw16.LowerCounts': WHATEVER THE INPUT: true; the input reads as it did. -/
def lowerCountsSpec : ChangeSpec := { name := "lowerCounts", fn := fun _ => fun
  | [d] => { results := [.lit (.bool true)], args := [d] }
  | _ => none }
def lowerCountsRow : OpenClaim := { program := "ytoahoagfkpfhnaa", sum := "c639bbdffab76ecd6ee88fcd10dcb1e050689b9e8cfcc35d13cdbf7511b959b3", func := "bauta/bautalaw16.LowerCounts", spec := "lowerCounts", unfollowed := true, recurses := true, apart := false }
def LowerCountsSaid : Prop := lowerCountsRow.holds Try.pinned (OpenSpec.ofChange lowerCountsSpec)

/-- ITS FALSE NEIGHBOUR: 'it returns false'. Refute it at one input. -/
def lowerCountsWrong : ChangeSpec := { name := "lowerCounts", fn := fun _ => fun
  | [d] => { results := [.lit (.bool false)], args := [d] }
  | _ => none }
def LowerCountsWrongFalsely : Prop := lowerCountsRow.holds Try.pinned (OpenSpec.ofChange lowerCountsWrong)

/-- 'bautalaw16.LowerAgain': WHATEVER THE INPUT: true; the input reads as it did. -/
def lowerAgainSpec : ChangeSpec := { name := "lowerAgain", fn := fun _ => fun
  | [d] => { results := [.lit (.bool true)], args := [d] }
  | _ => none }
def lowerAgainRow : OpenClaim := { program := "ytoahoagfkpfhnaa", sum := "c639bbdffab76ecd6ee88fcd10dcb1e050689b9e8cfcc35d13cdbf7511b959b3", func := "bauta/bautalaw16.LowerAgain", spec := "lowerAgain", unfollowed := true, recurses := true, apart := false }
def LowerAgainSaid : Prop := lowerAgainRow.holds Try.pinned (OpenSpec.ofChange lowerAgainSpec)

/-- ITS FALSE NEIGHBOUR: 'it returns false'. Refute it at one input. -/
def lowerAgainWrong : ChangeSpec := { name := "lowerAgain", fn := fun _ => fun
  | [d] => { results := [.lit (.bool false)], args := [d] }
  | _ => none }
def LowerAgainWrongFalsely : Prop := lowerAgainRow.holds Try.pinned (OpenSpec.ofChange lowerAgainWrong)

/- THE SECOND FORM. 'bulk': how many values and letters a reading holds, each counted each time it is reached (what is shared counts as often as it is met; a slice's spare places count too). A statement '..UptoSaid' is the law's where the arguments, and the package variables that the reading takes, are together of bulk at most 1048576: NARROWER than '..Said'. Prove '..Said' where nothing that the law and all that it calls make is longer than what came in: it says more and counts as full. Else prove '..UptoSaid'. A law counts once. -/
mutual
def uptoBulk {H : Type} : DataW H → Nat
  | .lit (.string bytes) => bytes.length + 1
  | .lit _ => 1
  | .nil => 1
  | .ptr d => uptoBulk d + 1
  | .slice elems spare => uptoBulkAll elems + uptoBulkAll spare + 1
  | .agg parts => uptoBulkAll parts + 1
  | .iface _ d => uptoBulk d + 1
  | .map entries => uptoBulkEntries entries + 1
  | .held _ => 1
def uptoBulkAll {H : Type} : List (DataW H) → Nat
  | [] => 0
  | d :: r => uptoBulk d + uptoBulkAll r
def uptoBulkEntries {H : Type} : List (Lit × DataW H) → Nat
  | [] => 0
  | x :: r => uptoBulkEntry x + uptoBulkEntries r
def uptoBulkEntry {H : Type} : Lit × DataW H → Nat
  | (.string bytes, d) => bytes.length + uptoBulk d + 1
  | (_, d) => uptoBulk d + 1
 end
def uptoSmall : (H : Type) → List (DataW H) → Bool := fun _ ds => decide (uptoBulkAll ds ≤ 1048576)
def OpenSpec.upto (s : _root_.Go.ChangeSpec) : _root_.Go.OpenSpec := { _root_.Go.OpenSpec.ofChange s with cond := some uptoSmall }

/-- 'bautalaw31.HexfileBytes', WHERE WHAT IT READS IS OF BULK AT MOST 1048576: true; the input reads as it did. -/
def hexfileBytesUptoRow : OpenClaim := { program := "ytoahoagfkpfhnaa", sum := "c639bbdffab76ecd6ee88fcd10dcb1e050689b9e8cfcc35d13cdbf7511b959b3", func := "bauta/bautalaw31.HexfileBytes", spec := "hexfileBytes", inPlace := ["internal/abi.NoEscape"], apart := false, narrowed := true }
def HexfileBytesUptoSaid : Prop := hexfileBytesUptoRow.holds Try.pinned (OpenSpec.upto hexfileBytesSpec)

/-- 'bautalaw31.HexfileFlats', WHERE WHAT IT READS IS OF BULK AT MOST 1048576: true; the input reads as it did. -/
def hexfileFlatsUptoRow : OpenClaim := { program := "ytoahoagfkpfhnaa", sum := "c639bbdffab76ecd6ee88fcd10dcb1e050689b9e8cfcc35d13cdbf7511b959b3", func := "bauta/bautalaw31.HexfileFlats", spec := "hexfileFlats", inPlace := ["internal/abi.NoEscape"], apart := false, narrowed := true }
def HexfileFlatsUptoSaid : Prop := hexfileFlatsUptoRow.holds Try.pinned (OpenSpec.upto hexfileFlatsSpec)

/-- 'bautalaw16.LowerCircuits', WHERE WHAT IT READS IS OF BULK AT MOST 1048576: true; the input reads as it did. -/
def lowerCircuitsUptoRow : OpenClaim := { program := "ytoahoagfkpfhnaa", sum := "c639bbdffab76ecd6ee88fcd10dcb1e050689b9e8cfcc35d13cdbf7511b959b3", func := "bauta/bautalaw16.LowerCircuits", spec := "lowerCircuits", unfollowed := true, recurses := true, apart := false, narrowed := true }
def LowerCircuitsUptoSaid : Prop := lowerCircuitsUptoRow.holds Try.pinned (OpenSpec.upto lowerCircuitsSpec)

/-- 'bautalaw16.LowerSame', WHERE WHAT IT READS IS OF BULK AT MOST 1048576: true; the input reads as it did. -/
def lowerSameUptoRow : OpenClaim := { program := "ytoahoagfkpfhnaa", sum := "c639bbdffab76ecd6ee88fcd10dcb1e050689b9e8cfcc35d13cdbf7511b959b3", func := "bauta/bautalaw16.LowerSame", spec := "lowerSame", unfollowed := true, recurses := true, apart := false, narrowed := true }
def LowerSameUptoSaid : Prop := lowerSameUptoRow.holds Try.pinned (OpenSpec.upto lowerSameSpec)

/-- 'bautalaw16.LowerCounts', WHERE WHAT IT READS IS OF BULK AT MOST 1048576: true; the input reads as it did. -/
def lowerCountsUptoRow : OpenClaim := { program := "ytoahoagfkpfhnaa", sum := "c639bbdffab76ecd6ee88fcd10dcb1e050689b9e8cfcc35d13cdbf7511b959b3", func := "bauta/bautalaw16.LowerCounts", spec := "lowerCounts", unfollowed := true, recurses := true, apart := false, narrowed := true }
def LowerCountsUptoSaid : Prop := lowerCountsUptoRow.holds Try.pinned (OpenSpec.upto lowerCountsSpec)

/-- 'bautalaw16.LowerAgain', WHERE WHAT IT READS IS OF BULK AT MOST 1048576: true; the input reads as it did. -/
def lowerAgainUptoRow : OpenClaim := { program := "ytoahoagfkpfhnaa", sum := "c639bbdffab76ecd6ee88fcd10dcb1e050689b9e8cfcc35d13cdbf7511b959b3", func := "bauta/bautalaw16.LowerAgain", spec := "lowerAgain", unfollowed := true, recurses := true, apart := false, narrowed := true }
def LowerAgainUptoSaid : Prop := lowerAgainUptoRow.holds Try.pinned (OpenSpec.upto lowerAgainSpec)

end Rows
end Go.Proofs.Ytoahoagfkpfhnaa
