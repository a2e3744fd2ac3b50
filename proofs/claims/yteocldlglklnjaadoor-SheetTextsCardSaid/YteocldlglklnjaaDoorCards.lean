/-
  DERIVED. GIVEN WITH THE SEED: THE CARDS: each row of YteocldlglklnjaaDoorRows.lean that lists a variable, with what it lists TIED to the program's text (the seventh form; the later family's looks); each row that meets fmt, with fmt's text TOLD by the authors' own Lean function (tested against real Go, not proved from fmt's source: count such statements apart). THE CARD IS WHAT COUNTS. Prove the row's statement (the work); the ties are given (YteocldlglklnjaaDoorTie.lean); close each card by the builder's one call (the guide's Derived/Test/ToyasCard.lean, 'card_holds'). Laid BY PROGRAM, IN A SANDBOX (cutbox-door.mjs). By AI agents, Wed Nov 11 2026. No macro, syntax, notation, axiom, sorry.
-/
import Derived.Test.YteocldlglklnjaaDoorRows
import GoSem.ClaimSeven
namespace Go.Proofs.YteocldlglklnjaaDoor
namespace Rows

/-- THE TIED CARD OF 'remontoirlaw53.SheetRows'. -/
def sheetRowsCard : Claim7 := { stood := { row := sheetRowsRow, standIns := [], harness := (true, "58a891c06bc8506263146a230b47a00bfafa74142b7174dead8899938537d232"), looks := false }, kinds := [], alts := [], laidByText := true, laidKinds := [.data], laidTests := true, laidLooks := .later }
def SheetRowsCardSaid : Prop := Claim7.holds Tryd.pinned (.plain (OpenSpec.ofChange sheetRowsSpec)) sheetRowsCard

/-- THE TIED CARD OF 'remontoirlaw43.RouteFinds'. -/
def routeFindsCard : Claim7 := { stood := { row := routeFindsRow, standIns := [], harness := (true, "58a891c06bc8506263146a230b47a00bfafa74142b7174dead8899938537d232"), looks := false }, kinds := [], alts := [], laidByText := true, laidKinds := [.data], laidTests := true, laidLooks := .later }
def RouteFindsCardSaid : Prop := Claim7.holds Tryd.pinned (.plain (OpenSpec.ofChange routeFindsSpec)) routeFindsCard

/-- THE TIED CARD OF 'remontoirlaw53.SheetTexts'. -/
def sheetTextsCard : Claim7 := { stood := { row := sheetTextsRow, standIns := [], harness := (true, "58a891c06bc8506263146a230b47a00bfafa74142b7174dead8899938537d232"), looks := false }, kinds := [], alts := [], laidByText := true, laidKinds := [.data], laidTests := true, laidLooks := .later }
def SheetTextsCardSaid : Prop := Claim7.holds Tryd.pinned (.plain (OpenSpec.ofChange sheetTextsSpec)) sheetTextsCard

/-- THE SECOND FORM's CARD OF 'remontoirlaw53.SheetRows'. -/
def sheetRowsUptoCard : Claim7 := { stood := { row := sheetRowsUptoRow, standIns := [], harness := (true, "58a891c06bc8506263146a230b47a00bfafa74142b7174dead8899938537d232"), looks := false }, kinds := [], alts := [], laidByText := true, laidKinds := [.data], laidTests := true, laidLooks := .later }
def SheetRowsUptoCardSaid : Prop := Claim7.holds Tryd.pinned (.plain (OpenSpec.upto sheetRowsSpec)) sheetRowsUptoCard

/-- THE SECOND FORM's CARD OF 'remontoirlaw43.RouteFinds'. -/
def routeFindsUptoCard : Claim7 := { stood := { row := routeFindsUptoRow, standIns := [], harness := (true, "58a891c06bc8506263146a230b47a00bfafa74142b7174dead8899938537d232"), looks := false }, kinds := [], alts := [], laidByText := true, laidKinds := [.data], laidTests := true, laidLooks := .later }
def RouteFindsUptoCardSaid : Prop := Claim7.holds Tryd.pinned (.plain (OpenSpec.upto routeFindsSpec)) routeFindsUptoCard

/-- THE SECOND FORM's CARD OF 'remontoirlaw53.SheetTexts'. -/
def sheetTextsUptoCard : Claim7 := { stood := { row := sheetTextsUptoRow, standIns := [], harness := (true, "58a891c06bc8506263146a230b47a00bfafa74142b7174dead8899938537d232"), looks := false }, kinds := [], alts := [], laidByText := true, laidKinds := [.data], laidTests := true, laidLooks := .later }
def SheetTextsUptoCardSaid : Prop := Claim7.holds Tryd.pinned (.plain (OpenSpec.upto sheetTextsSpec)) sheetTextsUptoCard
end Rows
end Go.Proofs.YteocldlglklnjaaDoor
