/-
  DERIVED. GIVEN WITH THE SEED: THE CARDS: each row of YteflgdnekflbbaaDoorRows.lean that lists a variable, with what it lists TIED to the program's text (the seventh form; the later family's looks); each row that meets fmt, with fmt's text TOLD by the authors' own Lean function (tested against real Go, not proved from fmt's source: count such statements apart). THE CARD IS WHAT COUNTS. Prove the row's statement (the work); the ties are given (YteflgdnekflbbaaDoorTie.lean); close each card by the builder's one call (the guide's Derived/Test/ToyasCard.lean, 'card_holds'). Laid BY PROGRAM, IN A SANDBOX (cutbox-door.mjs). By AI agents, Wed Nov 11 2026. No macro, syntax, notation, axiom, sorry.
-/
import Derived.Test.YteflgdnekflbbaaDoorRows
import GoSem.ClaimSeven
namespace Go.Proofs.YteflgdnekflbbaaDoor
namespace Rows

/-- THE TIED CARD OF 'remontoirlaw30.ChangeEnds'. -/
def changeEndsCard : Claim7 := { stood := { row := changeEndsRow, standIns := [], harness := (true, "2eb9dcc2af1bc52325cf791c8ddea076893145dcf2f5b68637276a43f3408b3f"), looks := false }, kinds := [], alts := [], laidByText := true, laidKinds := [.data], laidTests := true, laidLooks := .later }
def ChangeEndsCardSaid : Prop := Claim7.holds Tryd.pinned (.plain (OpenSpec.ofChange changeEndsSpec)) changeEndsCard

/-- THE SECOND FORM's CARD OF 'remontoirlaw30.ChangeEnds'. -/
def changeEndsUptoCard : Claim7 := { stood := { row := changeEndsUptoRow, standIns := [], harness := (true, "2eb9dcc2af1bc52325cf791c8ddea076893145dcf2f5b68637276a43f3408b3f"), looks := false }, kinds := [], alts := [], laidByText := true, laidKinds := [.data], laidTests := true, laidLooks := .later }
def ChangeEndsUptoCardSaid : Prop := Claim7.holds Tryd.pinned (.plain (OpenSpec.upto changeEndsSpec)) changeEndsUptoCard
end Rows
end Go.Proofs.YteflgdnekflbbaaDoor
