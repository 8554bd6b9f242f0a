/-
  DERIVED. GIVEN WITH THE SEED: THE CARDS: each row of YtfogafinohfpfaaGreatDoorRows.lean that lists a variable, with what it lists TIED to the program's text (the seventh form; the later family's looks); each row that meets fmt, with fmt's text TOLD by the authors' own Lean function (tested against real Go, not proved from fmt's source: count such statements apart). THE CARD IS WHAT COUNTS. Prove the row's statement (the work); the ties are given (YtfogafinohfpfaaGreatDoorTie.lean); close each card by the builder's one call (the guide's Derived/Test/ToyasCard.lean, 'card_holds'). Laid BY PROGRAM, IN A SANDBOX (cutbox-door.mjs). By AI agents, Wed Nov 11 2026. No macro, syntax, notation, axiom, sorry.
-/
import Derived.Test.YtfogafinohfpfaaGreatDoorRows
import GoSem.ClaimSeven
namespace Go.Proofs.YtfogafinohfpfaaGreatDoor
namespace Rows

/-- THE TIED CARD OF 'bautalaw37.EquivOrders'. -/
def equivOrdersCard : Claim7 := { stood := { row := equivOrdersRow, standIns := [], harness := (true, "dd365541e634ee217ce411b7fb003ec08d6c47d078f50c345316fa3fef0d7875"), looks := true }, kinds := [], alts := [], laidByText := true, laidKinds := [.widerDeep], laidTests := true, laidLooks := .later }
def EquivOrdersCardSaid : Prop := Claim7.holds Tryz.pinned (.plain (OpenSpec.ofChange equivOrdersSpec)) equivOrdersCard

/-- THE TIED CARD OF 'bautalaw11.ShowSame'. -/
def showSameCard : Claim7 := { stood := { row := showSameRow, standIns := [], harness := (true, "dd365541e634ee217ce411b7fb003ec08d6c47d078f50c345316fa3fef0d7875"), looks := true }, kinds := [], alts := [], laidByText := true, laidKinds := [.data, .data, .data, .widerDeep], laidTests := true, laidLooks := .later }
def ShowSameCardSaid : Prop := Claim7.holds Tryz.pinned (.plain (OpenSpec.ofChange showSameSpec)) showSameCard

/-- THE TIED CARD OF 'bautalaw12.NamesPrograms'. -/
def namesProgramsCard : Claim7 := { stood := { row := namesProgramsRow, standIns := [], harness := (true, "dd365541e634ee217ce411b7fb003ec08d6c47d078f50c345316fa3fef0d7875"), looks := true }, kinds := [], alts := [], laidByText := true, laidKinds := [.widerDeep], laidTests := true, laidLooks := .later }
def NamesProgramsCardSaid : Prop := Claim7.holds Tryz.pinned (.plain (OpenSpec.ofChange namesProgramsSpec)) namesProgramsCard

/-- THE TIED CARD OF 'bautalaw12.NamesLeft'. -/
def namesLeftCard : Claim7 := { stood := { row := namesLeftRow, standIns := [], harness := (true, "dd365541e634ee217ce411b7fb003ec08d6c47d078f50c345316fa3fef0d7875"), looks := true }, kinds := [], alts := [], laidByText := true, laidKinds := [.widerDeep], laidTests := true, laidLooks := .later }
def NamesLeftCardSaid : Prop := Claim7.holds Tryz.pinned (.plain (OpenSpec.ofChange namesLeftSpec)) namesLeftCard

/-- THE TIED CARD OF 'bautalaw12.NamesUses'. -/
def namesUsesCard : Claim7 := { stood := { row := namesUsesRow, standIns := [], harness := (true, "dd365541e634ee217ce411b7fb003ec08d6c47d078f50c345316fa3fef0d7875"), looks := true }, kinds := [], alts := [], laidByText := true, laidKinds := [.widerDeep], laidTests := true, laidLooks := .later }
def NamesUsesCardSaid : Prop := Claim7.holds Tryz.pinned (.plain (OpenSpec.ofChange namesUsesSpec)) namesUsesCard

/-- THE SECOND FORM's CARD OF 'bautalaw37.EquivOrders'. -/
def equivOrdersUptoCard : Claim7 := { stood := { row := equivOrdersUptoRow, standIns := [], harness := (true, "dd365541e634ee217ce411b7fb003ec08d6c47d078f50c345316fa3fef0d7875"), looks := true }, kinds := [], alts := [], laidByText := true, laidKinds := [.widerDeep], laidTests := true, laidLooks := .later }
def EquivOrdersUptoCardSaid : Prop := Claim7.holds Tryz.pinned (.plain (OpenSpec.upto equivOrdersSpec)) equivOrdersUptoCard

/-- THE SECOND FORM's CARD OF 'bautalaw11.ShowSame'. -/
def showSameUptoCard : Claim7 := { stood := { row := showSameUptoRow, standIns := [], harness := (true, "dd365541e634ee217ce411b7fb003ec08d6c47d078f50c345316fa3fef0d7875"), looks := true }, kinds := [], alts := [], laidByText := true, laidKinds := [.data, .data, .data, .widerDeep], laidTests := true, laidLooks := .later }
def ShowSameUptoCardSaid : Prop := Claim7.holds Tryz.pinned (.plain (OpenSpec.upto showSameSpec)) showSameUptoCard

/-- THE SECOND FORM's CARD OF 'bautalaw12.NamesPrograms'. -/
def namesProgramsUptoCard : Claim7 := { stood := { row := namesProgramsUptoRow, standIns := [], harness := (true, "dd365541e634ee217ce411b7fb003ec08d6c47d078f50c345316fa3fef0d7875"), looks := true }, kinds := [], alts := [], laidByText := true, laidKinds := [.widerDeep], laidTests := true, laidLooks := .later }
def NamesProgramsUptoCardSaid : Prop := Claim7.holds Tryz.pinned (.plain (OpenSpec.upto namesProgramsSpec)) namesProgramsUptoCard

/-- THE SECOND FORM's CARD OF 'bautalaw12.NamesLeft'. -/
def namesLeftUptoCard : Claim7 := { stood := { row := namesLeftUptoRow, standIns := [], harness := (true, "dd365541e634ee217ce411b7fb003ec08d6c47d078f50c345316fa3fef0d7875"), looks := true }, kinds := [], alts := [], laidByText := true, laidKinds := [.widerDeep], laidTests := true, laidLooks := .later }
def NamesLeftUptoCardSaid : Prop := Claim7.holds Tryz.pinned (.plain (OpenSpec.upto namesLeftSpec)) namesLeftUptoCard

/-- THE SECOND FORM's CARD OF 'bautalaw12.NamesUses'. -/
def namesUsesUptoCard : Claim7 := { stood := { row := namesUsesUptoRow, standIns := [], harness := (true, "dd365541e634ee217ce411b7fb003ec08d6c47d078f50c345316fa3fef0d7875"), looks := true }, kinds := [], alts := [], laidByText := true, laidKinds := [.widerDeep], laidTests := true, laidLooks := .later }
def NamesUsesUptoCardSaid : Prop := Claim7.holds Tryz.pinned (.plain (OpenSpec.upto namesUsesSpec)) namesUsesUptoCard
end Rows
end Go.Proofs.YtfogafinohfpfaaGreatDoor
