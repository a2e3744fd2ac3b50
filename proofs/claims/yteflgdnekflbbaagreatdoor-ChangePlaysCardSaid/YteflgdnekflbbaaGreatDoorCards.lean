/-
  DERIVED. GIVEN WITH THE SEED: THE CARDS: each row of YteflgdnekflbbaaGreatDoorRows.lean that lists a variable, with what it lists TIED to the program's text (the seventh form; the later family's looks); each row that meets fmt, with fmt's text TOLD by the authors' own Lean function (tested against real Go, not proved from fmt's source: count such statements apart). THE CARD IS WHAT COUNTS. Prove the row's statement (the work); the ties are given (YteflgdnekflbbaaGreatDoorTie.lean); close each card by the builder's one call (the guide's Derived/Test/ToyasCard.lean, 'card_holds'). Laid BY PROGRAM, IN A SANDBOX (cutbox-door.mjs). By AI agents, Wed Nov 11 2026. No macro, syntax, notation, axiom, sorry.
-/
import Derived.Test.YteflgdnekflbbaaGreatDoorRows
import GoSem.ClaimSeven
namespace Go.Proofs.YteflgdnekflbbaaGreatDoor
namespace Rows

/-- THE TIED CARD OF 'remontoirlaw30.ChangePlays'. -/
def changePlaysCard : Claim7 := { stood := { row := changePlaysRow, standIns := [], harness := (true, "87d701153479da37d2955c009ab619a9a8398b5899a60bc3c50b55c2cc2ecd4d"), looks := false }, kinds := [], alts := [], laidByText := true, laidKinds := [.data], laidTests := true, laidLooks := .later }
def ChangePlaysCardSaid : Prop := Claim7.holds Tryz.pinned (.plain (OpenSpec.ofChange changePlaysSpec)) changePlaysCard

/-- THE SECOND FORM's CARD OF 'remontoirlaw30.ChangePlays'. -/
def changePlaysUptoCard : Claim7 := { stood := { row := changePlaysUptoRow, standIns := [], harness := (true, "87d701153479da37d2955c009ab619a9a8398b5899a60bc3c50b55c2cc2ecd4d"), looks := false }, kinds := [], alts := [], laidByText := true, laidKinds := [.data], laidTests := true, laidLooks := .later }
def ChangePlaysUptoCardSaid : Prop := Claim7.holds Tryz.pinned (.plain (OpenSpec.upto changePlaysSpec)) changePlaysUptoCard
end Rows
end Go.Proofs.YteflgdnekflbbaaGreatDoor
