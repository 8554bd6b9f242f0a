/-
  No cell of these rows narrows 'for every input' (looked for: loops, veiled, ifaces, maps, wideKeys, modest, calm, conditions, laid).
  DERIVED. THE GIVEN ROWS OF THIS SEAT. 4 by the template 'for every input the law returns true; each argument reads behind the call as it read before'; 0 by the template 'total and deterministic' (their statements: YtnlkfkkgcaiklaaTotals.lean).
  GIVEN WITH THE SEED: the statements are not yours to turn. If you find one false, say at which input.
  Laid BY PROGRAM, IN A SANDBOX (cutbox-rows.mjs): the forced cells as the released guide's own fill.sh prints them over the translation ec3940ecf69ea641… (all of the seat's roots in one cut). By AI agents, Wed Nov 11 2026. No macro, syntax, notation, axiom, sorry.
-/
import Derived.Test.YtnlkfkkgcaiklaaChecked
import GoSem.Claim
import GoSem.ClaimJoined
import GoSem.ClaimMapViews
import Derived.JoinedTies
import Derived.KernelRfl
namespace Go.Proofs.Ytnlkfkkgcaiklaa
/- THE CELL 'sum', in the pinned program and in every row, IS THE sha256 OF THE DUMP (.gsa) THAT YtnlkfkkgcaiklaaProg.lean LOADS. Nothing in Lean hashes anything: it is a label: what it is worth is what the hold of that sum in a sandbox is worth. -/
noncomputable def Try.pinned : Pinned := { name := "ytnlkfkkgcaiklaa", sum := "ec3940ecf69ea6419559bc44d61e3718f20b4fa720fac5927979fbf3cae1657a", checked := Try.checked }
namespace Rows
def none {H : Type} : Left H := { results := [], args := [] }

/-- 'bautalaw17.FoldSame': WHATEVER THE INPUT: true; the input reads as it did. -/
def foldSameSpec : ChangeSpec := { name := "foldSame", fn := fun _ => fun
  | [d1, d2, d3] => { results := [.lit (.bool true)], args := [d1, d2, d3] }
  | _ => none }
def foldSameRow : OpenClaim := { program := "ytnlkfkkgcaiklaa", sum := "ec3940ecf69ea6419559bc44d61e3718f20b4fa720fac5927979fbf3cae1657a", func := "bauta/bautalaw17.FoldSame", spec := "foldSame", unfollowed := true, recurses := true, plainKeys := false, apart := false }
def FoldSameSaid : Prop := foldSameRow.holds Try.pinned (OpenSpec.ofChange foldSameSpec)

/-- ITS FALSE NEIGHBOUR: 'it returns false'. Refute it at one input. -/
def foldSameWrong : ChangeSpec := { name := "foldSame", fn := fun _ => fun
  | [d1, d2, d3] => { results := [.lit (.bool false)], args := [d1, d2, d3] }
  | _ => none }
def FoldSameWrongFalsely : Prop := foldSameRow.holds Try.pinned (OpenSpec.ofChange foldSameWrong)

/-- 'bautalaw17.FoldLeast': WHATEVER THE INPUT: true; the input reads as it did. -/
def foldLeastSpec : ChangeSpec := { name := "foldLeast", fn := fun _ => fun
  | [d] => { results := [.lit (.bool true)], args := [d] }
  | _ => none }
def foldLeastRow : OpenClaim := { program := "ytnlkfkkgcaiklaa", sum := "ec3940ecf69ea6419559bc44d61e3718f20b4fa720fac5927979fbf3cae1657a", func := "bauta/bautalaw17.FoldLeast", spec := "foldLeast", unfollowed := true, recurses := true, plainKeys := false, apart := false }
def FoldLeastSaid : Prop := foldLeastRow.holds Try.pinned (OpenSpec.ofChange foldLeastSpec)

/-- ITS FALSE NEIGHBOUR: 'it returns false'. Refute it at one input. -/
def foldLeastWrong : ChangeSpec := { name := "foldLeast", fn := fun _ => fun
  | [d] => { results := [.lit (.bool false)], args := [d] }
  | _ => none }
def FoldLeastWrongFalsely : Prop := foldLeastRow.holds Try.pinned (OpenSpec.ofChange foldLeastWrong)

/-- 'bautalaw17.FoldAgain': WHATEVER THE INPUT: true; the input reads as it did. -/
def foldAgainSpec : ChangeSpec := { name := "foldAgain", fn := fun _ => fun
  | [d] => { results := [.lit (.bool true)], args := [d] }
  | _ => none }
def foldAgainRow : OpenClaim := { program := "ytnlkfkkgcaiklaa", sum := "ec3940ecf69ea6419559bc44d61e3718f20b4fa720fac5927979fbf3cae1657a", func := "bauta/bautalaw17.FoldAgain", spec := "foldAgain", unfollowed := true, recurses := true, plainKeys := false, apart := false }
def FoldAgainSaid : Prop := foldAgainRow.holds Try.pinned (OpenSpec.ofChange foldAgainSpec)

/-- ITS FALSE NEIGHBOUR: 'it returns false'. Refute it at one input. -/
def foldAgainWrong : ChangeSpec := { name := "foldAgain", fn := fun _ => fun
  | [d] => { results := [.lit (.bool false)], args := [d] }
  | _ => none }
def FoldAgainWrongFalsely : Prop := foldAgainRow.holds Try.pinned (OpenSpec.ofChange foldAgainWrong)

/-- 'bautalaw17.FoldConsts': WHATEVER THE INPUT: true; the input reads as it did. -/
def foldConstsSpec : ChangeSpec := { name := "foldConsts", fn := fun _ => fun
  | [d] => { results := [.lit (.bool true)], args := [d] }
  | _ => none }
def foldConstsRow : OpenClaim := { program := "ytnlkfkkgcaiklaa", sum := "ec3940ecf69ea6419559bc44d61e3718f20b4fa720fac5927979fbf3cae1657a", func := "bauta/bautalaw17.FoldConsts", spec := "foldConsts", unfollowed := true, recurses := true, plainKeys := false, apart := false }
def FoldConstsSaid : Prop := foldConstsRow.holds Try.pinned (OpenSpec.ofChange foldConstsSpec)

/-- ITS FALSE NEIGHBOUR: 'it returns false'. Refute it at one input. -/
def foldConstsWrong : ChangeSpec := { name := "foldConsts", fn := fun _ => fun
  | [d] => { results := [.lit (.bool false)], args := [d] }
  | _ => none }
def FoldConstsWrongFalsely : Prop := foldConstsRow.holds Try.pinned (OpenSpec.ofChange foldConstsWrong)

/- THE SECOND FORM. 'bulk': how many values and letters a reading holds, each counted each time it is reached (what is shared counts as often as it is met; a slice's spare places count too). A statement '..UptoSaid' is the law's where the arguments, and the package variables that the reading takes, are together of bulk at most 1048576: NARROWER than '..Said'. Prove '..Said' where nothing that the law and all that it calls make is longer than what came in: it says more and counts as full. Else prove '..UptoSaid'. A law counts once. -/
mutual
def uptoBulk {H : Type} : DataW H → Nat
  | .lit (.string bytes) => bytes.length + 1
  | .lit _ => 1
  | .nil => 1
  | .ptr d => uptoBulk d + 1
  | .slice elems spare => uptoBulkAll elems + uptoBulkAll spare + 1
  | .agg parts => uptoBulkAll parts + 1
  | .iface _ d => uptoBulk d + 1
  | .map entries => uptoBulkEntries entries + 1
  | .held _ => 1
def uptoBulkAll {H : Type} : List (DataW H) → Nat
  | [] => 0
  | d :: r => uptoBulk d + uptoBulkAll r
def uptoBulkEntries {H : Type} : List (Lit × DataW H) → Nat
  | [] => 0
  | x :: r => uptoBulkEntry x + uptoBulkEntries r
def uptoBulkEntry {H : Type} : Lit × DataW H → Nat
  | (.string bytes, d) => bytes.length + uptoBulk d + 1
  | (_, d) => uptoBulk d + 1
 end
def uptoSmall : (H : Type) → List (DataW H) → Bool := fun _ ds => decide (uptoBulkAll ds ≤ 1048576)
def OpenSpec.upto (s : _root_.Go.ChangeSpec) : _root_.Go.OpenSpec := { _root_.Go.OpenSpec.ofChange s with cond := some uptoSmall }

/-- 'bautalaw17.FoldSame', WHERE WHAT IT READS IS OF BULK AT MOST 1048576: true; the input reads as it did. -/
def foldSameUptoRow : OpenClaim := { program := "ytnlkfkkgcaiklaa", sum := "ec3940ecf69ea6419559bc44d61e3718f20b4fa720fac5927979fbf3cae1657a", func := "bauta/bautalaw17.FoldSame", spec := "foldSame", unfollowed := true, recurses := true, plainKeys := false, apart := false, narrowed := true }
def FoldSameUptoSaid : Prop := foldSameUptoRow.holds Try.pinned (OpenSpec.upto foldSameSpec)

/-- 'bautalaw17.FoldLeast', WHERE WHAT IT READS IS OF BULK AT MOST 1048576: true; the input reads as it did. -/
def foldLeastUptoRow : OpenClaim := { program := "ytnlkfkkgcaiklaa", sum := "ec3940ecf69ea6419559bc44d61e3718f20b4fa720fac5927979fbf3cae1657a", func := "bauta/bautalaw17.FoldLeast", spec := "foldLeast", unfollowed := true, recurses := true, plainKeys := false, apart := false, narrowed := true }
def FoldLeastUptoSaid : Prop := foldLeastUptoRow.holds Try.pinned (OpenSpec.upto foldLeastSpec)

/-- 'bautalaw17.FoldAgain', WHERE WHAT IT READS IS OF BULK AT MOST 1048576: true; the input reads as it did. -/
def foldAgainUptoRow : OpenClaim := { program := "ytnlkfkkgcaiklaa", sum := "ec3940ecf69ea6419559bc44d61e3718f20b4fa720fac5927979fbf3cae1657a", func := "bauta/bautalaw17.FoldAgain", spec := "foldAgain", unfollowed := true, recurses := true, plainKeys := false, apart := false, narrowed := true }
def FoldAgainUptoSaid : Prop := foldAgainUptoRow.holds Try.pinned (OpenSpec.upto foldAgainSpec)

/-- 'bautalaw17.FoldConsts', WHERE WHAT IT READS IS OF BULK AT MOST 1048576: true; the input reads as it did. -/
def foldConstsUptoRow : OpenClaim := { program := "ytnlkfkkgcaiklaa", sum := "ec3940ecf69ea6419559bc44d61e3718f20b4fa720fac5927979fbf3cae1657a", func := "bauta/bautalaw17.FoldConsts", spec := "foldConsts", unfollowed := true, recurses := true, plainKeys := false, apart := false, narrowed := true }
def FoldConstsUptoSaid : Prop := foldConstsUptoRow.holds Try.pinned (OpenSpec.upto foldConstsSpec)

end Rows
end Go.Proofs.Ytnlkfkkgcaiklaa
