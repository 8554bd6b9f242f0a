/-
  No cell of these rows narrows 'for every input' (looked for: loops, veiled, ifaces, maps, wideKeys, modest, calm, conditions, laid).
  DERIVED. THE GIVEN ROWS OF THIS SEAT. 9 by the template 'for every input the law returns true; each argument reads behind the call as it read before'; 0 by the template 'total and deterministic' (their statements: YtgdbnamlnemfmaaTotals.lean).
  GIVEN WITH THE SEED: the statements are not yours to turn. If you find one false, say at which input.
  Laid BY PROGRAM, IN A SANDBOX (cutbox-rows.mjs): the forced cells as the released guide's own fill.sh prints them over the translation e7e3ba5fcb7bb4cd… (all of the seat's roots in one cut). By AI agents, Wed Nov 11 2026. No macro, syntax, notation, axiom, sorry.
-/
import Derived.Test.YtgdbnamlnemfmaaChecked
import GoSem.Claim
import GoSem.ClaimJoined
import GoSem.ClaimMapViews
import Derived.JoinedTies
import Derived.KernelRfl
namespace Go.Proofs.Ytgdbnamlnemfmaa
/- THE CELL 'sum', in the pinned program and in every row, IS THE sha256 OF THE DUMP (.gsa) THAT YtgdbnamlnemfmaaProg.lean LOADS. Nothing in Lean hashes anything: it is a label: what it is worth is what the hold of that sum in a sandbox is worth. -/
noncomputable def Try.pinned : Pinned := { name := "ytgdbnamlnemfmaa", sum := "e7e3ba5fcb7bb4cdebac1e8ba0e526ee72760458d5456c0b11cb764e7d1652df", checked := Try.checked }
namespace Rows
def none {H : Type} : Left H := { results := [], args := [] }

/-- 'bautalaw20.GraphTells': WHATEVER THE INPUT: true; the input reads as it did. -/
def graphTellsSpec : ChangeSpec := { name := "graphTells", fn := fun _ => fun
  | [d] => { results := [.lit (.bool true)], args := [d] }
  | _ => none }
def graphTellsRow : OpenClaim := { program := "ytgdbnamlnemfmaa", sum := "e7e3ba5fcb7bb4cdebac1e8ba0e526ee72760458d5456c0b11cb764e7d1652df", func := "bauta/bautalaw20.GraphTells", spec := "graphTells", unfollowed := true, recurses := true, apart := false }
def GraphTellsSaid : Prop := graphTellsRow.holds Try.pinned (OpenSpec.ofChange graphTellsSpec)

/-- ITS FALSE NEIGHBOUR: 'it returns false'. Refute it at one input. -/
def graphTellsWrong : ChangeSpec := { name := "graphTells", fn := fun _ => fun
  | [d] => { results := [.lit (.bool false)], args := [d] }
  | _ => none }
def GraphTellsWrongFalsely : Prop := graphTellsRow.holds Try.pinned (OpenSpec.ofChange graphTellsWrong)

/-- 'bautalaw20.GraphUses': WHATEVER THE INPUT: true; the input reads as it did. -/
def graphUsesSpec : ChangeSpec := { name := "graphUses", fn := fun _ => fun
  | [d] => { results := [.lit (.bool true)], args := [d] }
  | _ => none }
def graphUsesRow : OpenClaim := { program := "ytgdbnamlnemfmaa", sum := "e7e3ba5fcb7bb4cdebac1e8ba0e526ee72760458d5456c0b11cb764e7d1652df", func := "bauta/bautalaw20.GraphUses", spec := "graphUses", unfollowed := true, recurses := true, apart := false }
def GraphUsesSaid : Prop := graphUsesRow.holds Try.pinned (OpenSpec.ofChange graphUsesSpec)

/-- ITS FALSE NEIGHBOUR: 'it returns false'. Refute it at one input. -/
def graphUsesWrong : ChangeSpec := { name := "graphUses", fn := fun _ => fun
  | [d] => { results := [.lit (.bool false)], args := [d] }
  | _ => none }
def GraphUsesWrongFalsely : Prop := graphUsesRow.holds Try.pinned (OpenSpec.ofChange graphUsesWrong)

/-- 'bautalaw09.LexWords': WHATEVER THE INPUT: true; the input reads as it did. -/
def lexWordsSpec : ChangeSpec := { name := "lexWords", fn := fun _ => fun
  | [d] => { results := [.lit (.bool true)], args := [d] }
  | _ => none }
def lexWordsRow : OpenClaim := { program := "ytgdbnamlnemfmaa", sum := "e7e3ba5fcb7bb4cdebac1e8ba0e526ee72760458d5456c0b11cb764e7d1652df", func := "bauta/bautalaw09.LexWords", spec := "lexWords", inPlace := ["internal/bytealg.IndexByteString", "internal/bytealg.IndexString"], unfollowed := true, recurses := true, named := ["internal/bytealg.MaxLen"], apart := false }
def LexWordsSaid : Prop := lexWordsRow.holds Try.pinned (OpenSpec.ofChange lexWordsSpec)

/-- ITS FALSE NEIGHBOUR: 'it returns false'. Refute it at one input. -/
def lexWordsWrong : ChangeSpec := { name := "lexWords", fn := fun _ => fun
  | [d] => { results := [.lit (.bool false)], args := [d] }
  | _ => none }
def LexWordsWrongFalsely : Prop := lexWordsRow.holds Try.pinned (OpenSpec.ofChange lexWordsWrong)

/-- 'bautalaw09.LexNames': WHATEVER THE INPUT: true; the input reads as it did. -/
def lexNamesSpec : ChangeSpec := { name := "lexNames", fn := fun _ => fun
  | [d] => { results := [.lit (.bool true)], args := [d] }
  | _ => none }
def lexNamesRow : OpenClaim := { program := "ytgdbnamlnemfmaa", sum := "e7e3ba5fcb7bb4cdebac1e8ba0e526ee72760458d5456c0b11cb764e7d1652df", func := "bauta/bautalaw09.LexNames", spec := "lexNames", inPlace := ["internal/bytealg.IndexByteString", "internal/bytealg.IndexString"], unfollowed := true, recurses := true, named := ["internal/bytealg.MaxLen"], apart := false }
def LexNamesSaid : Prop := lexNamesRow.holds Try.pinned (OpenSpec.ofChange lexNamesSpec)

/-- ITS FALSE NEIGHBOUR: 'it returns false'. Refute it at one input. -/
def lexNamesWrong : ChangeSpec := { name := "lexNames", fn := fun _ => fun
  | [d] => { results := [.lit (.bool false)], args := [d] }
  | _ => none }
def LexNamesWrongFalsely : Prop := lexNamesRow.holds Try.pinned (OpenSpec.ofChange lexNamesWrong)

/-- 'bautalaw09.LexOrder': WHATEVER THE INPUT: true; the input reads as it did. -/
def lexOrderSpec : ChangeSpec := { name := "lexOrder", fn := fun _ => fun
  | [d] => { results := [.lit (.bool true)], args := [d] }
  | _ => none }
def lexOrderRow : OpenClaim := { program := "ytgdbnamlnemfmaa", sum := "e7e3ba5fcb7bb4cdebac1e8ba0e526ee72760458d5456c0b11cb764e7d1652df", func := "bauta/bautalaw09.LexOrder", spec := "lexOrder", inPlace := ["internal/bytealg.IndexByteString", "internal/bytealg.IndexString"], unfollowed := true, recurses := true, named := ["internal/bytealg.MaxLen"], apart := false }
def LexOrderSaid : Prop := lexOrderRow.holds Try.pinned (OpenSpec.ofChange lexOrderSpec)

/-- ITS FALSE NEIGHBOUR: 'it returns false'. Refute it at one input. -/
def lexOrderWrong : ChangeSpec := { name := "lexOrder", fn := fun _ => fun
  | [d] => { results := [.lit (.bool false)], args := [d] }
  | _ => none }
def LexOrderWrongFalsely : Prop := lexOrderRow.holds Try.pinned (OpenSpec.ofChange lexOrderWrong)

/-- 'bautalaw20.GraphWords': WHATEVER THE INPUT: true; the input reads as it did. -/
def graphWordsSpec : ChangeSpec := { name := "graphWords", fn := fun _ => fun
  | [d1, d2, d3] => { results := [.lit (.bool true)], args := [d1, d2, d3] }
  | _ => none }
def graphWordsRow : OpenClaim := { program := "ytgdbnamlnemfmaa", sum := "e7e3ba5fcb7bb4cdebac1e8ba0e526ee72760458d5456c0b11cb764e7d1652df", func := "bauta/bautalaw20.GraphWords", spec := "graphWords", unfollowed := true, recurses := true, apart := false }
def GraphWordsSaid : Prop := graphWordsRow.holds Try.pinned (OpenSpec.ofChange graphWordsSpec)

/-- ITS FALSE NEIGHBOUR: 'it returns false'. Refute it at one input. -/
def graphWordsWrong : ChangeSpec := { name := "graphWords", fn := fun _ => fun
  | [d1, d2, d3] => { results := [.lit (.bool false)], args := [d1, d2, d3] }
  | _ => none }
def GraphWordsWrongFalsely : Prop := graphWordsRow.holds Try.pinned (OpenSpec.ofChange graphWordsWrong)

/-- 'bautalaw09.LexJoins': WHATEVER THE INPUT: true; the input reads as it did. -/
def lexJoinsSpec : ChangeSpec := { name := "lexJoins", fn := fun _ => fun
  | [d] => { results := [.lit (.bool true)], args := [d] }
  | _ => none }
def lexJoinsRow : OpenClaim := { program := "ytgdbnamlnemfmaa", sum := "e7e3ba5fcb7bb4cdebac1e8ba0e526ee72760458d5456c0b11cb764e7d1652df", func := "bauta/bautalaw09.LexJoins", spec := "lexJoins", inPlace := ["internal/bytealg.IndexByteString", "internal/bytealg.IndexString", "internal/abi.NoEscape"], unfollowed := true, recurses := true, named := ["internal/bytealg.MaxLen"], apart := false }
def LexJoinsSaid : Prop := lexJoinsRow.holds Try.pinned (OpenSpec.ofChange lexJoinsSpec)

/-- ITS FALSE NEIGHBOUR: 'it returns false'. Refute it at one input. -/
def lexJoinsWrong : ChangeSpec := { name := "lexJoins", fn := fun _ => fun
  | [d] => { results := [.lit (.bool false)], args := [d] }
  | _ => none }
def LexJoinsWrongFalsely : Prop := lexJoinsRow.holds Try.pinned (OpenSpec.ofChange lexJoinsWrong)

/-- 'bautalaw20.GraphPlain': WHATEVER THE INPUT: true; the input reads as it did. -/
def graphPlainSpec : ChangeSpec := { name := "graphPlain", fn := fun _ => fun
  | [d1, d2, d3] => { results := [.lit (.bool true)], args := [d1, d2, d3] }
  | _ => none }
def graphPlainRow : OpenClaim := { program := "ytgdbnamlnemfmaa", sum := "e7e3ba5fcb7bb4cdebac1e8ba0e526ee72760458d5456c0b11cb764e7d1652df", func := "bauta/bautalaw20.GraphPlain", spec := "graphPlain", unfollowed := true, recurses := true, apart := false }
def GraphPlainSaid : Prop := graphPlainRow.holds Try.pinned (OpenSpec.ofChange graphPlainSpec)

/-- ITS FALSE NEIGHBOUR: 'it returns false'. Refute it at one input. -/
def graphPlainWrong : ChangeSpec := { name := "graphPlain", fn := fun _ => fun
  | [d1, d2, d3] => { results := [.lit (.bool false)], args := [d1, d2, d3] }
  | _ => none }
def GraphPlainWrongFalsely : Prop := graphPlainRow.holds Try.pinned (OpenSpec.ofChange graphPlainWrong)

/-- 'bautalaw20.GraphSame': WHATEVER THE INPUT: true; the input reads as it did. -/
def graphSameSpec : ChangeSpec := { name := "graphSame", fn := fun _ => fun
  | [d1, d2, d3] => { results := [.lit (.bool true)], args := [d1, d2, d3] }
  | _ => none }
def graphSameRow : OpenClaim := { program := "ytgdbnamlnemfmaa", sum := "e7e3ba5fcb7bb4cdebac1e8ba0e526ee72760458d5456c0b11cb764e7d1652df", func := "bauta/bautalaw20.GraphSame", spec := "graphSame", unfollowed := true, recurses := true, apart := false }
def GraphSameSaid : Prop := graphSameRow.holds Try.pinned (OpenSpec.ofChange graphSameSpec)

/-- ITS FALSE NEIGHBOUR: 'it returns false'. Refute it at one input. -/
def graphSameWrong : ChangeSpec := { name := "graphSame", fn := fun _ => fun
  | [d1, d2, d3] => { results := [.lit (.bool false)], args := [d1, d2, d3] }
  | _ => none }
def GraphSameWrongFalsely : Prop := graphSameRow.holds Try.pinned (OpenSpec.ofChange graphSameWrong)

/- THE SECOND FORM. 'bulk': how many values and letters a reading holds, each counted each time it is reached (what is shared counts as often as it is met; a slice's spare places count too). A statement '..UptoSaid' is the law's where the arguments, and the package variables that the reading takes, are together of bulk at most 1048576: NARROWER than '..Said'. Prove '..Said' where nothing that the law and all that it calls make is longer than what came in: it says more and counts as full. Else prove '..UptoSaid'. A law counts once. -/
mutual
def uptoBulk {H : Type} : DataW H → Nat
  | .lit (.string bytes) => bytes.length + 1
  | .lit _ => 1
  | .nil => 1
  | .ptr d => uptoBulk d + 1
  | .slice elems spare => uptoBulkAll elems + uptoBulkAll spare + 1
  | .agg parts => uptoBulkAll parts + 1
  | .iface _ d => uptoBulk d + 1
  | .map entries => uptoBulkEntries entries + 1
  | .held _ => 1
def uptoBulkAll {H : Type} : List (DataW H) → Nat
  | [] => 0
  | d :: r => uptoBulk d + uptoBulkAll r
def uptoBulkEntries {H : Type} : List (Lit × DataW H) → Nat
  | [] => 0
  | x :: r => uptoBulkEntry x + uptoBulkEntries r
def uptoBulkEntry {H : Type} : Lit × DataW H → Nat
  | (.string bytes, d) => bytes.length + uptoBulk d + 1
  | (_, d) => uptoBulk d + 1
 end
def uptoSmall : (H : Type) → List (DataW H) → Bool := fun _ ds => decide (uptoBulkAll ds ≤ 1048576)
def OpenSpec.upto (s : _root_.Go.ChangeSpec) : _root_.Go.OpenSpec := { _root_.Go.OpenSpec.ofChange s with cond := some uptoSmall }

/-- 'bautalaw20.GraphTells', WHERE WHAT IT READS IS OF BULK AT MOST 1048576: true; the input reads as it did. -/
def graphTellsUptoRow : OpenClaim := { program := "ytgdbnamlnemfmaa", sum := "e7e3ba5fcb7bb4cdebac1e8ba0e526ee72760458d5456c0b11cb764e7d1652df", func := "bauta/bautalaw20.GraphTells", spec := "graphTells", unfollowed := true, recurses := true, apart := false, narrowed := true }
def GraphTellsUptoSaid : Prop := graphTellsUptoRow.holds Try.pinned (OpenSpec.upto graphTellsSpec)

/-- 'bautalaw20.GraphUses', WHERE WHAT IT READS IS OF BULK AT MOST 1048576: true; the input reads as it did. -/
def graphUsesUptoRow : OpenClaim := { program := "ytgdbnamlnemfmaa", sum := "e7e3ba5fcb7bb4cdebac1e8ba0e526ee72760458d5456c0b11cb764e7d1652df", func := "bauta/bautalaw20.GraphUses", spec := "graphUses", unfollowed := true, recurses := true, apart := false, narrowed := true }
def GraphUsesUptoSaid : Prop := graphUsesUptoRow.holds Try.pinned (OpenSpec.upto graphUsesSpec)

/-- 'bautalaw09.LexWords', WHERE WHAT IT READS IS OF BULK AT MOST 1048576: true; the input reads as it did. -/
def lexWordsUptoRow : OpenClaim := { program := "ytgdbnamlnemfmaa", sum := "e7e3ba5fcb7bb4cdebac1e8ba0e526ee72760458d5456c0b11cb764e7d1652df", func := "bauta/bautalaw09.LexWords", spec := "lexWords", inPlace := ["internal/bytealg.IndexByteString", "internal/bytealg.IndexString"], unfollowed := true, recurses := true, named := ["internal/bytealg.MaxLen"], apart := false, narrowed := true }
def LexWordsUptoSaid : Prop := lexWordsUptoRow.holds Try.pinned (OpenSpec.upto lexWordsSpec)

/-- 'bautalaw09.LexNames', WHERE WHAT IT READS IS OF BULK AT MOST 1048576: true; the input reads as it did. -/
def lexNamesUptoRow : OpenClaim := { program := "ytgdbnamlnemfmaa", sum := "e7e3ba5fcb7bb4cdebac1e8ba0e526ee72760458d5456c0b11cb764e7d1652df", func := "bauta/bautalaw09.LexNames", spec := "lexNames", inPlace := ["internal/bytealg.IndexByteString", "internal/bytealg.IndexString"], unfollowed := true, recurses := true, named := ["internal/bytealg.MaxLen"], apart := false, narrowed := true }
def LexNamesUptoSaid : Prop := lexNamesUptoRow.holds Try.pinned (OpenSpec.upto lexNamesSpec)

/-- 'bautalaw09.LexOrder', WHERE WHAT IT READS IS OF BULK AT MOST 1048576: true; the input reads as it did. -/
def lexOrderUptoRow : OpenClaim := { program := "ytgdbnamlnemfmaa", sum := "e7e3ba5fcb7bb4cdebac1e8ba0e526ee72760458d5456c0b11cb764e7d1652df", func := "bauta/bautalaw09.LexOrder", spec := "lexOrder", inPlace := ["internal/bytealg.IndexByteString", "internal/bytealg.IndexString"], unfollowed := true, recurses := true, named := ["internal/bytealg.MaxLen"], apart := false, narrowed := true }
def LexOrderUptoSaid : Prop := lexOrderUptoRow.holds Try.pinned (OpenSpec.upto lexOrderSpec)

/-- 'bautalaw20.GraphWords', WHERE WHAT IT READS IS OF BULK AT MOST 1048576: true; the input reads as it did. -/
def graphWordsUptoRow : OpenClaim := { program := "ytgdbnamlnemfmaa", sum := "e7e3ba5fcb7bb4cdebac1e8ba0e526ee72760458d5456c0b11cb764e7d1652df", func := "bauta/bautalaw20.GraphWords", spec := "graphWords", unfollowed := true, recurses := true, apart := false, narrowed := true }
def GraphWordsUptoSaid : Prop := graphWordsUptoRow.holds Try.pinned (OpenSpec.upto graphWordsSpec)

/-- 'bautalaw09.LexJoins', WHERE WHAT IT READS IS OF BULK AT MOST 1048576: true; the input reads as it did. -/
def lexJoinsUptoRow : OpenClaim := { program := "ytgdbnamlnemfmaa", sum := "e7e3ba5fcb7bb4cdebac1e8ba0e526ee72760458d5456c0b11cb764e7d1652df", func := "bauta/bautalaw09.LexJoins", spec := "lexJoins", inPlace := ["internal/bytealg.IndexByteString", "internal/bytealg.IndexString", "internal/abi.NoEscape"], unfollowed := true, recurses := true, named := ["internal/bytealg.MaxLen"], apart := false, narrowed := true }
def LexJoinsUptoSaid : Prop := lexJoinsUptoRow.holds Try.pinned (OpenSpec.upto lexJoinsSpec)

/-- 'bautalaw20.GraphPlain', WHERE WHAT IT READS IS OF BULK AT MOST 1048576: true; the input reads as it did. -/
def graphPlainUptoRow : OpenClaim := { program := "ytgdbnamlnemfmaa", sum := "e7e3ba5fcb7bb4cdebac1e8ba0e526ee72760458d5456c0b11cb764e7d1652df", func := "bauta/bautalaw20.GraphPlain", spec := "graphPlain", unfollowed := true, recurses := true, apart := false, narrowed := true }
def GraphPlainUptoSaid : Prop := graphPlainUptoRow.holds Try.pinned (OpenSpec.upto graphPlainSpec)

/-- 'bautalaw20.GraphSame', WHERE WHAT IT READS IS OF BULK AT MOST 1048576: true; the input reads as it did. -/
def graphSameUptoRow : OpenClaim := { program := "ytgdbnamlnemfmaa", sum := "e7e3ba5fcb7bb4cdebac1e8ba0e526ee72760458d5456c0b11cb764e7d1652df", func := "bauta/bautalaw20.GraphSame", spec := "graphSame", unfollowed := true, recurses := true, apart := false, narrowed := true }
def GraphSameUptoSaid : Prop := graphSameUptoRow.holds Try.pinned (OpenSpec.upto graphSameSpec)

end Rows
end Go.Proofs.Ytgdbnamlnemfmaa
