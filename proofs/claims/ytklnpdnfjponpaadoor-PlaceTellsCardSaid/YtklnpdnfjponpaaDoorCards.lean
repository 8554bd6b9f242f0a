/-
  DERIVED. GIVEN WITH THE SEED: THE CARDS: each row of YtklnpdnfjponpaaDoorRows.lean that lists a variable, with what it lists TIED to the program's text (the seventh form; the later family's looks); each row that meets fmt, with fmt's text TOLD by the authors' own Lean function (tested against real Go, not proved from fmt's source: count such statements apart). THE CARD IS WHAT COUNTS. Prove the row's statement (the work); the ties are given (YtklnpdnfjponpaaDoorTie.lean); close each card by the builder's one call (the guide's Derived/Test/ToyasCard.lean, 'card_holds'). Laid BY PROGRAM, IN A SANDBOX (cutbox-door.mjs). By AI agents, Wed Nov 11 2026. No macro, syntax, notation, axiom, sorry.
-/
import Derived.Test.YtklnpdnfjponpaaDoorRows
import GoSem.ClaimSeven
namespace Go.Proofs.YtklnpdnfjponpaaDoor
namespace Rows

/-- THE TIED CARD OF 'bautalaw29.PlaceExcerpts'. -/
def placeExcerptsCard : Claim7 := { stood := { row := placeExcerptsRow, standIns := [], harness := (true, "90ce378d9596ccf79220e4598208c0a3315b497bd2f9cb049f5126e905dbee6e"), looks := false }, kinds := [], alts := [], laidByText := true, laidKinds := [.data, .data, .data], laidTests := true, laidLooks := .later }
def PlaceExcerptsCardSaid : Prop := Claim7.holds Tryd.pinned (.plain (OpenSpec.ofChange placeExcerptsSpec)) placeExcerptsCard

/-- THE TIED CARD OF 'bautalaw29.PlaceTells'. -/
def placeTellsCard : Claim7 := { stood := { row := placeTellsRow, standIns := [], harness := (true, "90ce378d9596ccf79220e4598208c0a3315b497bd2f9cb049f5126e905dbee6e"), looks := false }, kinds := [], alts := [], laidByText := true, laidKinds := [.data, .data, .data], laidTests := true, laidLooks := .later }
def PlaceTellsCardSaid : Prop := Claim7.holds Tryd.pinned (.plain (OpenSpec.ofChange placeTellsSpec)) placeTellsCard

/-- THE TIED CARD OF 'bautalaw29.PlaceWide'. -/
def placeWideCard : Claim7 := { stood := { row := placeWideRow, standIns := [], harness := (true, "90ce378d9596ccf79220e4598208c0a3315b497bd2f9cb049f5126e905dbee6e"), looks := false }, kinds := [], alts := [], laidByText := true, laidKinds := [.data, .data, .data], laidTests := true, laidLooks := .later }
def PlaceWideCardSaid : Prop := Claim7.holds Tryd.pinned (.plain (OpenSpec.ofChange placeWideSpec)) placeWideCard

/-- THE TIED CARD OF 'bautalaw29.PlaceOf'. -/
def placeOfCard : Claim7 := { stood := { row := placeOfRow, standIns := [], harness := (true, "90ce378d9596ccf79220e4598208c0a3315b497bd2f9cb049f5126e905dbee6e"), looks := false }, kinds := [], alts := [], laidByText := true, laidKinds := [.data, .data, .data], laidTests := true, laidLooks := .later }
def PlaceOfCardSaid : Prop := Claim7.holds Tryd.pinned (.plain (OpenSpec.ofChange placeOfSpec)) placeOfCard

/-- THE TIED CARD OF 'bautalaw29.PlaceAt'. -/
def placeAtCard : Claim7 := { stood := { row := placeAtRow, standIns := [], harness := (true, "90ce378d9596ccf79220e4598208c0a3315b497bd2f9cb049f5126e905dbee6e"), looks := false }, kinds := [], alts := [], laidByText := true, laidKinds := [.data, .data, .data], laidTests := true, laidLooks := .later }
def PlaceAtCardSaid : Prop := Claim7.holds Tryd.pinned (.plain (OpenSpec.ofChange placeAtSpec)) placeAtCard

/-- THE SECOND FORM's CARD OF 'bautalaw29.PlaceExcerpts'. -/
def placeExcerptsUptoCard : Claim7 := { stood := { row := placeExcerptsUptoRow, standIns := [], harness := (true, "90ce378d9596ccf79220e4598208c0a3315b497bd2f9cb049f5126e905dbee6e"), looks := false }, kinds := [], alts := [], laidByText := true, laidKinds := [.data, .data, .data], laidTests := true, laidLooks := .later }
def PlaceExcerptsUptoCardSaid : Prop := Claim7.holds Tryd.pinned (.plain (OpenSpec.upto placeExcerptsSpec)) placeExcerptsUptoCard

/-- THE SECOND FORM's CARD OF 'bautalaw29.PlaceTells'. -/
def placeTellsUptoCard : Claim7 := { stood := { row := placeTellsUptoRow, standIns := [], harness := (true, "90ce378d9596ccf79220e4598208c0a3315b497bd2f9cb049f5126e905dbee6e"), looks := false }, kinds := [], alts := [], laidByText := true, laidKinds := [.data, .data, .data], laidTests := true, laidLooks := .later }
def PlaceTellsUptoCardSaid : Prop := Claim7.holds Tryd.pinned (.plain (OpenSpec.upto placeTellsSpec)) placeTellsUptoCard

/-- THE SECOND FORM's CARD OF 'bautalaw29.PlaceWide'. -/
def placeWideUptoCard : Claim7 := { stood := { row := placeWideUptoRow, standIns := [], harness := (true, "90ce378d9596ccf79220e4598208c0a3315b497bd2f9cb049f5126e905dbee6e"), looks := false }, kinds := [], alts := [], laidByText := true, laidKinds := [.data, .data, .data], laidTests := true, laidLooks := .later }
def PlaceWideUptoCardSaid : Prop := Claim7.holds Tryd.pinned (.plain (OpenSpec.upto placeWideSpec)) placeWideUptoCard

/-- THE SECOND FORM's CARD OF 'bautalaw29.PlaceOf'. -/
def placeOfUptoCard : Claim7 := { stood := { row := placeOfUptoRow, standIns := [], harness := (true, "90ce378d9596ccf79220e4598208c0a3315b497bd2f9cb049f5126e905dbee6e"), looks := false }, kinds := [], alts := [], laidByText := true, laidKinds := [.data, .data, .data], laidTests := true, laidLooks := .later }
def PlaceOfUptoCardSaid : Prop := Claim7.holds Tryd.pinned (.plain (OpenSpec.upto placeOfSpec)) placeOfUptoCard

/-- THE SECOND FORM's CARD OF 'bautalaw29.PlaceAt'. -/
def placeAtUptoCard : Claim7 := { stood := { row := placeAtUptoRow, standIns := [], harness := (true, "90ce378d9596ccf79220e4598208c0a3315b497bd2f9cb049f5126e905dbee6e"), looks := false }, kinds := [], alts := [], laidByText := true, laidKinds := [.data, .data, .data], laidTests := true, laidLooks := .later }
def PlaceAtUptoCardSaid : Prop := Claim7.holds Tryd.pinned (.plain (OpenSpec.upto placeAtSpec)) placeAtUptoCard
end Rows
end Go.Proofs.YtklnpdnfjponpaaDoor
