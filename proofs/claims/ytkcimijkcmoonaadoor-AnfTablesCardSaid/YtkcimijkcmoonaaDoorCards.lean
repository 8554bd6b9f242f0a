/-
  DERIVED. GIVEN WITH THE SEED: THE CARDS: each row of YtkcimijkcmoonaaDoorRows.lean that lists a variable, with what it lists TIED to the program's text (the seventh form; the later family's looks); each row that meets fmt, with fmt's text TOLD by the authors' own Lean function (tested against real Go, not proved from fmt's source: count such statements apart). THE CARD IS WHAT COUNTS. Prove the row's statement (the work); the ties are given (YtkcimijkcmoonaaDoorTie.lean); close each card by the builder's one call (the guide's Derived/Test/ToyasCard.lean, 'card_holds'). Laid BY PROGRAM, IN A SANDBOX (cutbox-door.mjs). By AI agents, Wed Nov 11 2026. No macro, syntax, notation, axiom, sorry.
-/
import Derived.Test.YtkcimijkcmoonaaDoorRows
import GoSem.ClaimSeven
namespace Go.Proofs.YtkcimijkcmoonaaDoor
namespace Rows

/-- THE TIED CARD OF 'bautalaw34.AnfMakes'. -/
def anfMakesCard : Claim7 := { stood := { row := anfMakesRow, standIns := [], harness := (true, "09240a2c98b5c5dfd5589d1be1ddcac9a069295e56348ff9b0fddd938fd93b58"), looks := true }, kinds := [], alts := [], laidByText := true, laidKinds := [.data, .data, .data], laidTests := true, laidLooks := .later }
def AnfMakesCardSaid : Prop := Claim7.holds Tryd.pinned (.plain (OpenSpec.ofChange anfMakesSpec)) anfMakesCard

/-- THE TIED CARD OF 'bautalaw34.AnfValues'. -/
def anfValuesCard : Claim7 := { stood := { row := anfValuesRow, standIns := [], harness := (true, "09240a2c98b5c5dfd5589d1be1ddcac9a069295e56348ff9b0fddd938fd93b58"), looks := true }, kinds := [], alts := [], laidByText := true, laidKinds := [.data, .data, .data], laidTests := true, laidLooks := .later }
def AnfValuesCardSaid : Prop := Claim7.holds Tryd.pinned (.plain (OpenSpec.ofChange anfValuesSpec)) anfValuesCard

/-- THE TIED CARD OF 'bautalaw34.AnfTables'. -/
def anfTablesCard : Claim7 := { stood := { row := anfTablesRow, standIns := [], harness := (true, "09240a2c98b5c5dfd5589d1be1ddcac9a069295e56348ff9b0fddd938fd93b58"), looks := true }, kinds := [], alts := [], laidByText := true, laidKinds := [.data, .data, .data], laidTests := true, laidLooks := .later }
def AnfTablesCardSaid : Prop := Claim7.holds Tryd.pinned (.plain (OpenSpec.ofChange anfTablesSpec)) anfTablesCard

/-- THE TIED CARD OF 'bautalaw34.AnfReckons'. -/
def anfReckonsCard : Claim7 := { stood := { row := anfReckonsRow, standIns := [], harness := (true, "09240a2c98b5c5dfd5589d1be1ddcac9a069295e56348ff9b0fddd938fd93b58"), looks := true }, kinds := [], alts := [], laidByText := true, laidKinds := [.data, .data, .data], laidTests := true, laidLooks := .later }
def AnfReckonsCardSaid : Prop := Claim7.holds Tryd.pinned (.plain (OpenSpec.ofChange anfReckonsSpec)) anfReckonsCard

/-- THE TIED CARD OF 'bautalaw34.AnfTexts'. -/
def anfTextsCard : Claim7 := { stood := { row := anfTextsRow, standIns := [], harness := (true, "09240a2c98b5c5dfd5589d1be1ddcac9a069295e56348ff9b0fddd938fd93b58"), looks := true }, kinds := [], alts := [], laidByText := true, laidKinds := [.data, .data, .data, .data, .sentinel, .sentinel, .pinned], laidTests := true, laidLooks := .later }
def AnfTextsCardSaid : Prop := Claim7.holds Tryd.pinned (.plain (OpenSpec.ofChange anfTextsSpec)) anfTextsCard

/-- THE TIED CARD OF 'bautalaw04.TextShows'. -/
def textShowsCard : Claim7 := { stood := { row := textShowsRow, standIns := [], harness := (true, "09240a2c98b5c5dfd5589d1be1ddcac9a069295e56348ff9b0fddd938fd93b58"), looks := true }, kinds := [], alts := [], laidByText := true, laidKinds := [.data, .data, .data, .data, .sentinel, .sentinel, .listed, .data, .pinned], laidTests := true, laidLooks := .later }
def TextShowsCardSaid : Prop := Claim7.holds Tryd.pinned (.plain (OpenSpec.ofChange textShowsSpec)) textShowsCard

/-- THE TIED CARD OF 'bautalaw04.TextParses'. -/
def textParsesCard : Claim7 := { stood := { row := textParsesRow, standIns := [], harness := (true, "09240a2c98b5c5dfd5589d1be1ddcac9a069295e56348ff9b0fddd938fd93b58"), looks := true }, kinds := [], alts := [], laidByText := true, laidKinds := [.data, .data, .data, .data, .sentinel, .sentinel, .listed, .data, .pinned], laidTests := true, laidLooks := .later }
def TextParsesCardSaid : Prop := Claim7.holds Tryd.pinned (.plain (OpenSpec.ofChange textParsesSpec)) textParsesCard

/-- THE TIED CARD OF 'bautalaw04.TextOne'. -/
def textOneCard : Claim7 := { stood := { row := textOneRow, standIns := [], harness := (true, "09240a2c98b5c5dfd5589d1be1ddcac9a069295e56348ff9b0fddd938fd93b58"), looks := true }, kinds := [], alts := [], laidByText := true, laidKinds := [.data, .data, .data, .data, .sentinel, .sentinel, .listed, .data, .pinned], laidTests := true, laidLooks := .later }
def TextOneCardSaid : Prop := Claim7.holds Tryd.pinned (.plain (OpenSpec.ofChange textOneSpec)) textOneCard

/-- THE TIED CARD OF 'bautalaw31.HexfileTakes'. -/
def hexfileTakesCard : Claim7 := { stood := { row := hexfileTakesRow, standIns := [], harness := (true, "09240a2c98b5c5dfd5589d1be1ddcac9a069295e56348ff9b0fddd938fd93b58"), looks := true }, kinds := [], alts := [], laidByText := true, laidKinds := [.data, .data, .data, .data, .sentinel, .sentinel, .pinned], laidTests := true, laidLooks := .later }
def HexfileTakesCardSaid : Prop := Claim7.holds Tryd.pinned (.plain (OpenSpec.ofChange hexfileTakesSpec)) hexfileTakesCard

/-- THE TIED CARD OF 'bautalaw31.HexfileSpoilt'. -/
def hexfileSpoiltCard : Claim7 := { stood := { row := hexfileSpoiltRow, standIns := [], harness := (true, "09240a2c98b5c5dfd5589d1be1ddcac9a069295e56348ff9b0fddd938fd93b58"), looks := true }, kinds := [], alts := [], laidByText := true, laidKinds := [.data, .data, .data, .data, .sentinel, .sentinel, .pinned], laidTests := true, laidLooks := .later }
def HexfileSpoiltCardSaid : Prop := Claim7.holds Tryd.pinned (.plain (OpenSpec.ofChange hexfileSpoiltSpec)) hexfileSpoiltCard

/-- THE TIED CARD OF 'bautalaw31.HexfilePuts'. -/
def hexfilePutsCard : Claim7 := { stood := { row := hexfilePutsRow, standIns := [], harness := (true, "09240a2c98b5c5dfd5589d1be1ddcac9a069295e56348ff9b0fddd938fd93b58"), looks := true }, kinds := [], alts := [], laidByText := true, laidKinds := [.data, .data, .data, .data, .sentinel, .sentinel, .pinned], laidTests := true, laidLooks := .later }
def HexfilePutsCardSaid : Prop := Claim7.holds Tryd.pinned (.plain (OpenSpec.ofChange hexfilePutsSpec)) hexfilePutsCard

/-- THE SECOND FORM's CARD OF 'bautalaw34.AnfMakes'. -/
def anfMakesUptoCard : Claim7 := { stood := { row := anfMakesUptoRow, standIns := [], harness := (true, "09240a2c98b5c5dfd5589d1be1ddcac9a069295e56348ff9b0fddd938fd93b58"), looks := true }, kinds := [], alts := [], laidByText := true, laidKinds := [.data, .data, .data], laidTests := true, laidLooks := .later }
def AnfMakesUptoCardSaid : Prop := Claim7.holds Tryd.pinned (.plain (OpenSpec.upto anfMakesSpec)) anfMakesUptoCard

/-- THE SECOND FORM's CARD OF 'bautalaw34.AnfValues'. -/
def anfValuesUptoCard : Claim7 := { stood := { row := anfValuesUptoRow, standIns := [], harness := (true, "09240a2c98b5c5dfd5589d1be1ddcac9a069295e56348ff9b0fddd938fd93b58"), looks := true }, kinds := [], alts := [], laidByText := true, laidKinds := [.data, .data, .data], laidTests := true, laidLooks := .later }
def AnfValuesUptoCardSaid : Prop := Claim7.holds Tryd.pinned (.plain (OpenSpec.upto anfValuesSpec)) anfValuesUptoCard

/-- THE SECOND FORM's CARD OF 'bautalaw34.AnfTables'. -/
def anfTablesUptoCard : Claim7 := { stood := { row := anfTablesUptoRow, standIns := [], harness := (true, "09240a2c98b5c5dfd5589d1be1ddcac9a069295e56348ff9b0fddd938fd93b58"), looks := true }, kinds := [], alts := [], laidByText := true, laidKinds := [.data, .data, .data], laidTests := true, laidLooks := .later }
def AnfTablesUptoCardSaid : Prop := Claim7.holds Tryd.pinned (.plain (OpenSpec.upto anfTablesSpec)) anfTablesUptoCard

/-- THE SECOND FORM's CARD OF 'bautalaw34.AnfReckons'. -/
def anfReckonsUptoCard : Claim7 := { stood := { row := anfReckonsUptoRow, standIns := [], harness := (true, "09240a2c98b5c5dfd5589d1be1ddcac9a069295e56348ff9b0fddd938fd93b58"), looks := true }, kinds := [], alts := [], laidByText := true, laidKinds := [.data, .data, .data], laidTests := true, laidLooks := .later }
def AnfReckonsUptoCardSaid : Prop := Claim7.holds Tryd.pinned (.plain (OpenSpec.upto anfReckonsSpec)) anfReckonsUptoCard

/-- THE SECOND FORM's CARD OF 'bautalaw34.AnfTexts'. -/
def anfTextsUptoCard : Claim7 := { stood := { row := anfTextsUptoRow, standIns := [], harness := (true, "09240a2c98b5c5dfd5589d1be1ddcac9a069295e56348ff9b0fddd938fd93b58"), looks := true }, kinds := [], alts := [], laidByText := true, laidKinds := [.data, .data, .data, .data, .sentinel, .sentinel, .pinned], laidTests := true, laidLooks := .later }
def AnfTextsUptoCardSaid : Prop := Claim7.holds Tryd.pinned (.plain (OpenSpec.upto anfTextsSpec)) anfTextsUptoCard

/-- THE SECOND FORM's CARD OF 'bautalaw04.TextShows'. -/
def textShowsUptoCard : Claim7 := { stood := { row := textShowsUptoRow, standIns := [], harness := (true, "09240a2c98b5c5dfd5589d1be1ddcac9a069295e56348ff9b0fddd938fd93b58"), looks := true }, kinds := [], alts := [], laidByText := true, laidKinds := [.data, .data, .data, .data, .sentinel, .sentinel, .listed, .data, .pinned], laidTests := true, laidLooks := .later }
def TextShowsUptoCardSaid : Prop := Claim7.holds Tryd.pinned (.plain (OpenSpec.upto textShowsSpec)) textShowsUptoCard

/-- THE SECOND FORM's CARD OF 'bautalaw04.TextParses'. -/
def textParsesUptoCard : Claim7 := { stood := { row := textParsesUptoRow, standIns := [], harness := (true, "09240a2c98b5c5dfd5589d1be1ddcac9a069295e56348ff9b0fddd938fd93b58"), looks := true }, kinds := [], alts := [], laidByText := true, laidKinds := [.data, .data, .data, .data, .sentinel, .sentinel, .listed, .data, .pinned], laidTests := true, laidLooks := .later }
def TextParsesUptoCardSaid : Prop := Claim7.holds Tryd.pinned (.plain (OpenSpec.upto textParsesSpec)) textParsesUptoCard

/-- THE SECOND FORM's CARD OF 'bautalaw04.TextOne'. -/
def textOneUptoCard : Claim7 := { stood := { row := textOneUptoRow, standIns := [], harness := (true, "09240a2c98b5c5dfd5589d1be1ddcac9a069295e56348ff9b0fddd938fd93b58"), looks := true }, kinds := [], alts := [], laidByText := true, laidKinds := [.data, .data, .data, .data, .sentinel, .sentinel, .listed, .data, .pinned], laidTests := true, laidLooks := .later }
def TextOneUptoCardSaid : Prop := Claim7.holds Tryd.pinned (.plain (OpenSpec.upto textOneSpec)) textOneUptoCard

/-- THE SECOND FORM's CARD OF 'bautalaw31.HexfileTakes'. -/
def hexfileTakesUptoCard : Claim7 := { stood := { row := hexfileTakesUptoRow, standIns := [], harness := (true, "09240a2c98b5c5dfd5589d1be1ddcac9a069295e56348ff9b0fddd938fd93b58"), looks := true }, kinds := [], alts := [], laidByText := true, laidKinds := [.data, .data, .data, .data, .sentinel, .sentinel, .pinned], laidTests := true, laidLooks := .later }
def HexfileTakesUptoCardSaid : Prop := Claim7.holds Tryd.pinned (.plain (OpenSpec.upto hexfileTakesSpec)) hexfileTakesUptoCard

/-- THE SECOND FORM's CARD OF 'bautalaw31.HexfileSpoilt'. -/
def hexfileSpoiltUptoCard : Claim7 := { stood := { row := hexfileSpoiltUptoRow, standIns := [], harness := (true, "09240a2c98b5c5dfd5589d1be1ddcac9a069295e56348ff9b0fddd938fd93b58"), looks := true }, kinds := [], alts := [], laidByText := true, laidKinds := [.data, .data, .data, .data, .sentinel, .sentinel, .pinned], laidTests := true, laidLooks := .later }
def HexfileSpoiltUptoCardSaid : Prop := Claim7.holds Tryd.pinned (.plain (OpenSpec.upto hexfileSpoiltSpec)) hexfileSpoiltUptoCard

/-- THE SECOND FORM's CARD OF 'bautalaw31.HexfilePuts'. -/
def hexfilePutsUptoCard : Claim7 := { stood := { row := hexfilePutsUptoRow, standIns := [], harness := (true, "09240a2c98b5c5dfd5589d1be1ddcac9a069295e56348ff9b0fddd938fd93b58"), looks := true }, kinds := [], alts := [], laidByText := true, laidKinds := [.data, .data, .data, .data, .sentinel, .sentinel, .pinned], laidTests := true, laidLooks := .later }
def HexfilePutsUptoCardSaid : Prop := Claim7.holds Tryd.pinned (.plain (OpenSpec.upto hexfilePutsSpec)) hexfilePutsUptoCard
end Rows
end Go.Proofs.YtkcimijkcmoonaaDoor
