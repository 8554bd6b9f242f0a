/-
  DERIVED. GIVEN WITH THE SEED: THE CARDS: each row of YtgajjcehnpaooaaGreatDoorRows.lean that lists a variable, with what it lists TIED to the program's text (the seventh form; the later family's looks); each row that meets fmt, with fmt's text TOLD by the authors' own Lean function (tested against real Go, not proved from fmt's source: count such statements apart). THE CARD IS WHAT COUNTS. Prove the row's statement (the work); the ties are given (YtgajjcehnpaooaaGreatDoorTie.lean); close each card by the builder's one call (the guide's Derived/Test/ToyasCard.lean, 'card_holds'). Laid BY PROGRAM, IN A SANDBOX (cutbox-door.mjs). By AI agents, Wed Nov 11 2026. No macro, syntax, notation, axiom, sorry.
-/
import Derived.Test.YtgajjcehnpaooaaGreatDoorRows
import GoSem.ClaimSeven
namespace Go.Proofs.YtgajjcehnpaooaaGreatDoor
namespace Rows

/-- THE TIED CARD OF 'bautalaw15.CircCans'. -/
def circCansCard : Claim7 := { stood := { row := circCansRow, standIns := [], harness := (true, "ed3177e6abf69a5953a7fbbd9e9cfc2c50b6697e434d3cc330489f7e62b3cded"), looks := true }, kinds := [], alts := [], laidByText := true, laidKinds := [.widerDeep], laidTests := true, laidLooks := .later }
def CircCansCardSaid : Prop := Claim7.holds Tryz.pinned (.plain (OpenSpec.ofChange circCansSpec)) circCansCard

/-- THE TIED CARD OF 'bautalaw15.CircWords'. -/
def circWordsCard : Claim7 := { stood := { row := circWordsRow, standIns := [], harness := (true, "ed3177e6abf69a5953a7fbbd9e9cfc2c50b6697e434d3cc330489f7e62b3cded"), looks := true }, kinds := [], alts := [], laidByText := true, laidKinds := [.widerDeep], laidTests := true, laidLooks := .later }
def CircWordsCardSaid : Prop := Claim7.holds Tryz.pinned (.plain (OpenSpec.ofChange circWordsSpec)) circWordsCard

/-- THE TIED CARD OF 'bautalaw15.CircOpen'. -/
def circOpenCard : Claim7 := { stood := { row := circOpenRow, standIns := [], harness := (true, "ed3177e6abf69a5953a7fbbd9e9cfc2c50b6697e434d3cc330489f7e62b3cded"), looks := true }, kinds := [], alts := [], laidByText := true, laidKinds := [.widerDeep], laidTests := true, laidLooks := .later }
def CircOpenCardSaid : Prop := Claim7.holds Tryz.pinned (.plain (OpenSpec.ofChange circOpenSpec)) circOpenCard

/-- THE SECOND FORM's CARD OF 'bautalaw15.CircCans'. -/
def circCansUptoCard : Claim7 := { stood := { row := circCansUptoRow, standIns := [], harness := (true, "ed3177e6abf69a5953a7fbbd9e9cfc2c50b6697e434d3cc330489f7e62b3cded"), looks := true }, kinds := [], alts := [], laidByText := true, laidKinds := [.widerDeep], laidTests := true, laidLooks := .later }
def CircCansUptoCardSaid : Prop := Claim7.holds Tryz.pinned (.plain (OpenSpec.upto circCansSpec)) circCansUptoCard

/-- THE SECOND FORM's CARD OF 'bautalaw15.CircWords'. -/
def circWordsUptoCard : Claim7 := { stood := { row := circWordsUptoRow, standIns := [], harness := (true, "ed3177e6abf69a5953a7fbbd9e9cfc2c50b6697e434d3cc330489f7e62b3cded"), looks := true }, kinds := [], alts := [], laidByText := true, laidKinds := [.widerDeep], laidTests := true, laidLooks := .later }
def CircWordsUptoCardSaid : Prop := Claim7.holds Tryz.pinned (.plain (OpenSpec.upto circWordsSpec)) circWordsUptoCard

/-- THE SECOND FORM's CARD OF 'bautalaw15.CircOpen'. -/
def circOpenUptoCard : Claim7 := { stood := { row := circOpenUptoRow, standIns := [], harness := (true, "ed3177e6abf69a5953a7fbbd9e9cfc2c50b6697e434d3cc330489f7e62b3cded"), looks := true }, kinds := [], alts := [], laidByText := true, laidKinds := [.widerDeep], laidTests := true, laidLooks := .later }
def CircOpenUptoCardSaid : Prop := Claim7.holds Tryz.pinned (.plain (OpenSpec.upto circOpenSpec)) circOpenUptoCard
end Rows
end Go.Proofs.YtgajjcehnpaooaaGreatDoor
