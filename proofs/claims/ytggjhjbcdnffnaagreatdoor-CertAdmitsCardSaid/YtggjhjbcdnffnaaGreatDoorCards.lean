/-
  DERIVED. GIVEN WITH THE SEED: THE CARDS: each row of YtggjhjbcdnffnaaGreatDoorRows.lean that lists a variable, with what it lists TIED to the program's text (the seventh form; the later family's looks); each row that meets fmt, with fmt's text TOLD by the authors' own Lean function (tested against real Go, not proved from fmt's source: count such statements apart). THE CARD IS WHAT COUNTS. Prove the row's statement (the work); the ties are given (YtggjhjbcdnffnaaGreatDoorTie.lean); close each card by the builder's one call (the guide's Derived/Test/ToyasCard.lean, 'card_holds'). Laid BY PROGRAM, IN A SANDBOX (cutbox-door.mjs). By AI agents, Wed Nov 11 2026. No macro, syntax, notation, axiom, sorry.
-/
import Derived.Test.YtggjhjbcdnffnaaGreatDoorRows
import GoSem.ClaimSeven
namespace Go.Proofs.YtggjhjbcdnffnaaGreatDoor
namespace Rows

/-- THE TIED CARD OF 'remontoirlaw21.CertAdmits'. -/
def certAdmitsCard : Claim7 := { stood := { row := certAdmitsRow, standIns := [], harness := (true, "9b90c1bd655b87deaf3307c20c3f524d5e461c58fa362ff6711a5d94ae6085f4"), looks := false }, kinds := [], alts := [], laidByText := true, laidKinds := [.data], laidTests := true, laidLooks := .later }
def CertAdmitsCardSaid : Prop := Claim7.holds Tryz.pinned (.plain (OpenSpec.ofChange certAdmitsSpec)) certAdmitsCard

/-- THE SECOND FORM's CARD OF 'remontoirlaw21.CertAdmits'. -/
def certAdmitsUptoCard : Claim7 := { stood := { row := certAdmitsUptoRow, standIns := [], harness := (true, "9b90c1bd655b87deaf3307c20c3f524d5e461c58fa362ff6711a5d94ae6085f4"), looks := false }, kinds := [], alts := [], laidByText := true, laidKinds := [.data], laidTests := true, laidLooks := .later }
def CertAdmitsUptoCardSaid : Prop := Claim7.holds Tryz.pinned (.plain (OpenSpec.upto certAdmitsSpec)) certAdmitsUptoCard
end Rows
end Go.Proofs.YtggjhjbcdnffnaaGreatDoor
