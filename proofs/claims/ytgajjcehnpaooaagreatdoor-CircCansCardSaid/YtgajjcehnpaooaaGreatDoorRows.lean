/-
  NARROWER THAN 'FOR EVERY INPUT', by the rows' own cells (each row's printed sentence says how): CircCans: laid · CircWords: laid · CircOpen: laid.
  DERIVED. THE GIVEN ROWS OF THIS SEAT. 3 by the template 'for every input the law returns true; each argument reads behind the call as it read before'; 0 by the template 'total and deterministic' (their statements: YtgajjcehnpaooaaGreatDoorTotals.lean).
  GIVEN WITH THE SEED: the statements are not yours to turn. If you find one false, say at which input.
  Laid BY PROGRAM, IN A SANDBOX (cutbox-rows.mjs): the forced cells as the released guide's own fill.sh prints them over the translation 8d29b20c84ee4285… (all of the seat's roots in one cut). By AI agents, Wed Nov 11 2026. No macro, syntax, notation, axiom, sorry.
-/
import Derived.Test.YtgajjcehnpaooaaGreatDoorChecked
import GoSem.Claim
import GoSem.ClaimJoined
import GoSem.ClaimMapViews
import Derived.JoinedTies
import Derived.KernelRfl
namespace Go.Proofs.YtgajjcehnpaooaaGreatDoor
/- THE CELL 'sum', in the pinned program and in every row, IS THE sha256 OF THE DUMP (.gsa) THAT YtgajjcehnpaooaaGreatDoorProg.lean LOADS. Nothing in Lean hashes anything: it is a label: what it is worth is what the hold of that sum in a sandbox is worth. -/
noncomputable def Tryz.pinned : Pinned := { name := "ytgajjcehnpaooaagreatdoor", sum := "8d29b20c84ee42853b151b063b24532732df0a306740681731268e3e7cad0c78", checked := Tryz.checked }
namespace Rows
def none {H : Type} : Left H := { results := [], args := [] }

/- WHAT THE LISTED PACKAGE-LEVEL VARIABLES READ AS WHEN THE CALL BEGINS. Each datum BY PROGRAM (the guide's laid-datum.mjs) off the statement by which the dump's own 'gosem.cut.vars' lays the variable. In a bare row this is a premise. The card (YtgajjcehnpaooaaGreatDoorCards.lean) ties it to the program's text. -/
def laid_bauta_parse_levels {H : Type} : DataW H := .agg [.agg [.lit (.string [124]), .lit (.string []), .lit (.string [])], .agg [.lit (.string [94]), .lit (.string []), .lit (.string [])], .agg [.lit (.string [38]), .lit (.string []), .lit (.string [])], .agg [.lit (.string [60, 60]), .lit (.string [62, 62]), .lit (.string [60, 60, 60])], .agg [.lit (.string [43]), .lit (.string [45]), .lit (.string [])]]

/-- 'bautalaw15.CircCans': WHATEVER THE INPUT: true; the input reads as it did. -/
def circCansSpec : ChangeSpec := { name := "circCans", fn := fun _ => fun
  | [d] => { results := [.lit (.bool true)], args := [d] }
  | _ => none }
def circCansRow : OpenClaim := { program := "ytgajjcehnpaooaagreatdoor", sum := "8d29b20c84ee42853b151b063b24532732df0a306740681731268e3e7cad0c78", func := "bauta/bautalaw15.CircCans", spec := "circCans", inPlace := ["internal/bytealg.IndexByteString", "internal/bytealg.IndexString", "maps.clone"], unfollowed := true, recurses := true, named := ["internal/bytealg.MaxLen", "bauta/parse.levels"], apart := false, laid := [("bauta/parse.levels", laid_bauta_parse_levels)] }
def CircCansSaid : Prop := circCansRow.holds Tryz.pinned (OpenSpec.ofChange circCansSpec)

/-- ITS FALSE NEIGHBOUR: 'it returns false'. Refute it at one input. -/
def circCansWrong : ChangeSpec := { name := "circCans", fn := fun _ => fun
  | [d] => { results := [.lit (.bool false)], args := [d] }
  | _ => none }
def CircCansWrongFalsely : Prop := circCansRow.holds Tryz.pinned (OpenSpec.ofChange circCansWrong)

/-- 'bautalaw15.CircWords': WHATEVER THE INPUT: true; the input reads as it did. -/
def circWordsSpec : ChangeSpec := { name := "circWords", fn := fun _ => fun
  | [d1, d2, d3] => { results := [.lit (.bool true)], args := [d1, d2, d3] }
  | _ => none }
def circWordsRow : OpenClaim := { program := "ytgajjcehnpaooaagreatdoor", sum := "8d29b20c84ee42853b151b063b24532732df0a306740681731268e3e7cad0c78", func := "bauta/bautalaw15.CircWords", spec := "circWords", inPlace := ["internal/bytealg.IndexByteString", "internal/bytealg.IndexString", "maps.clone"], unfollowed := true, recurses := true, named := ["internal/bytealg.MaxLen", "bauta/parse.levels"], apart := false, laid := [("bauta/parse.levels", laid_bauta_parse_levels)] }
def CircWordsSaid : Prop := circWordsRow.holds Tryz.pinned (OpenSpec.ofChange circWordsSpec)

/-- ITS FALSE NEIGHBOUR: 'it returns false'. Refute it at one input. -/
def circWordsWrong : ChangeSpec := { name := "circWords", fn := fun _ => fun
  | [d1, d2, d3] => { results := [.lit (.bool false)], args := [d1, d2, d3] }
  | _ => none }
def CircWordsWrongFalsely : Prop := circWordsRow.holds Tryz.pinned (OpenSpec.ofChange circWordsWrong)

/-- 'bautalaw15.CircOpen': WHATEVER THE INPUT: true; the input reads as it did. -/
def circOpenSpec : ChangeSpec := { name := "circOpen", fn := fun _ => fun
  | [d1, d2, d3] => { results := [.lit (.bool true)], args := [d1, d2, d3] }
  | _ => none }
def circOpenRow : OpenClaim := { program := "ytgajjcehnpaooaagreatdoor", sum := "8d29b20c84ee42853b151b063b24532732df0a306740681731268e3e7cad0c78", func := "bauta/bautalaw15.CircOpen", spec := "circOpen", inPlace := ["internal/bytealg.IndexByteString", "internal/bytealg.IndexString", "maps.clone"], unfollowed := true, recurses := true, named := ["internal/bytealg.MaxLen", "bauta/parse.levels"], apart := false, laid := [("bauta/parse.levels", laid_bauta_parse_levels)] }
def CircOpenSaid : Prop := circOpenRow.holds Tryz.pinned (OpenSpec.ofChange circOpenSpec)

/-- ITS FALSE NEIGHBOUR: 'it returns false'. Refute it at one input. -/
def circOpenWrong : ChangeSpec := { name := "circOpen", fn := fun _ => fun
  | [d1, d2, d3] => { results := [.lit (.bool false)], args := [d1, d2, d3] }
  | _ => none }
def CircOpenWrongFalsely : Prop := circOpenRow.holds Tryz.pinned (OpenSpec.ofChange circOpenWrong)

/- THE SECOND FORM. 'bulk': how many values and letters a reading holds, each counted each time it is reached (what is shared counts as often as it is met; a slice's spare places count too). A statement '..UptoSaid' is the law's where the arguments, and the package variables that the reading takes, are together of bulk at most 1048576: NARROWER than '..Said'. Prove '..Said' where nothing that the law and all that it calls make is longer than what came in: it says more and counts as full. Else prove '..UptoSaid'. A law counts once. -/
mutual
def uptoBulk {H : Type} : DataW H → Nat
  | .lit (.string bytes) => bytes.length + 1
  | .lit _ => 1
  | .nil => 1
  | .ptr d => uptoBulk d + 1
  | .slice elems spare => uptoBulkAll elems + uptoBulkAll spare + 1
  | .agg parts => uptoBulkAll parts + 1
  | .iface _ d => uptoBulk d + 1
  | .map entries => uptoBulkEntries entries + 1
  | .held _ => 1
def uptoBulkAll {H : Type} : List (DataW H) → Nat
  | [] => 0
  | d :: r => uptoBulk d + uptoBulkAll r
def uptoBulkEntries {H : Type} : List (Lit × DataW H) → Nat
  | [] => 0
  | x :: r => uptoBulkEntry x + uptoBulkEntries r
def uptoBulkEntry {H : Type} : Lit × DataW H → Nat
  | (.string bytes, d) => bytes.length + uptoBulk d + 1
  | (_, d) => uptoBulk d + 1
 end
def uptoSmall : (H : Type) → List (DataW H) → Bool := fun _ ds => decide (uptoBulkAll ds ≤ 1048576)
def OpenSpec.upto (s : _root_.Go.ChangeSpec) : _root_.Go.OpenSpec := { _root_.Go.OpenSpec.ofChange s with cond := some uptoSmall }

/-- 'bautalaw15.CircCans', WHERE WHAT IT READS IS OF BULK AT MOST 1048576: true; the input reads as it did. -/
def circCansUptoRow : OpenClaim := { program := "ytgajjcehnpaooaagreatdoor", sum := "8d29b20c84ee42853b151b063b24532732df0a306740681731268e3e7cad0c78", func := "bauta/bautalaw15.CircCans", spec := "circCans", inPlace := ["internal/bytealg.IndexByteString", "internal/bytealg.IndexString", "maps.clone"], unfollowed := true, recurses := true, named := ["internal/bytealg.MaxLen", "bauta/parse.levels"], apart := false, laid := [("bauta/parse.levels", laid_bauta_parse_levels)], narrowed := true }
def CircCansUptoSaid : Prop := circCansUptoRow.holds Tryz.pinned (OpenSpec.upto circCansSpec)

/-- 'bautalaw15.CircWords', WHERE WHAT IT READS IS OF BULK AT MOST 1048576: true; the input reads as it did. -/
def circWordsUptoRow : OpenClaim := { program := "ytgajjcehnpaooaagreatdoor", sum := "8d29b20c84ee42853b151b063b24532732df0a306740681731268e3e7cad0c78", func := "bauta/bautalaw15.CircWords", spec := "circWords", inPlace := ["internal/bytealg.IndexByteString", "internal/bytealg.IndexString", "maps.clone"], unfollowed := true, recurses := true, named := ["internal/bytealg.MaxLen", "bauta/parse.levels"], apart := false, laid := [("bauta/parse.levels", laid_bauta_parse_levels)], narrowed := true }
def CircWordsUptoSaid : Prop := circWordsUptoRow.holds Tryz.pinned (OpenSpec.upto circWordsSpec)

/-- 'bautalaw15.CircOpen', WHERE WHAT IT READS IS OF BULK AT MOST 1048576: true; the input reads as it did. -/
def circOpenUptoRow : OpenClaim := { program := "ytgajjcehnpaooaagreatdoor", sum := "8d29b20c84ee42853b151b063b24532732df0a306740681731268e3e7cad0c78", func := "bauta/bautalaw15.CircOpen", spec := "circOpen", inPlace := ["internal/bytealg.IndexByteString", "internal/bytealg.IndexString", "maps.clone"], unfollowed := true, recurses := true, named := ["internal/bytealg.MaxLen", "bauta/parse.levels"], apart := false, laid := [("bauta/parse.levels", laid_bauta_parse_levels)], narrowed := true }
def CircOpenUptoSaid : Prop := circOpenUptoRow.holds Tryz.pinned (OpenSpec.upto circOpenSpec)

end Rows
end Go.Proofs.YtgajjcehnpaooaaGreatDoor
