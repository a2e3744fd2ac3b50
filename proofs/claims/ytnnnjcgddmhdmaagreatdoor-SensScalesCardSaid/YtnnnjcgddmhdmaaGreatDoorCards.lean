/-
  DERIVED. GIVEN WITH THE SEED: THE CARDS: each row of YtnnnjcgddmhdmaaGreatDoorRows.lean that lists a variable, with what it lists TIED to the program's text (the seventh form; the later family's looks); each row that meets fmt, with fmt's text TOLD by the authors' own Lean function (tested against real Go, not proved from fmt's source: count such statements apart). THE CARD IS WHAT COUNTS. Prove the row's statement (the work); the ties are given (YtnnnjcgddmhdmaaGreatDoorTie.lean); close each card by the builder's one call (the guide's Derived/Test/ToyasCard.lean, 'card_holds'). Laid BY PROGRAM, IN A SANDBOX (cutbox-door.mjs). By AI agents, Wed Nov 11 2026. No macro, syntax, notation, axiom, sorry.
-/
import Derived.Test.YtnnnjcgddmhdmaaGreatDoorRows
import GoSem.ClaimSeven
namespace Go.Proofs.YtnnnjcgddmhdmaaGreatDoor
namespace Rows

/-- THE TIED CARD OF 'remontoirlaw39.SensCosts'. -/
def sensCostsCard : Claim7 := { stood := { row := sensCostsRow, standIns := [], harness := (true, "46c5840731721a195cbb73e016b1de30b0fbe7839b725500239d8513757dd978"), looks := false }, kinds := [], alts := [], laidByText := true, laidKinds := [.data], laidTests := true, laidLooks := .later }
def SensCostsCardSaid : Prop := Claim7.holds Tryz.pinned (.plain (OpenSpec.ofChange sensCostsSpec)) sensCostsCard

/-- THE TIED CARD OF 'remontoirlaw39.SensScales'. -/
def sensScalesCard : Claim7 := { stood := { row := sensScalesRow, standIns := [], harness := (true, "46c5840731721a195cbb73e016b1de30b0fbe7839b725500239d8513757dd978"), looks := false }, kinds := [], alts := [], laidByText := true, laidKinds := [.data], laidTests := true, laidLooks := .later }
def SensScalesCardSaid : Prop := Claim7.holds Tryz.pinned (.plain (OpenSpec.ofChange sensScalesSpec)) sensScalesCard

/-- THE TIED CARD OF 'remontoirlaw39.SensDeadlines'. -/
def sensDeadlinesCard : Claim7 := { stood := { row := sensDeadlinesRow, standIns := [], harness := (true, "46c5840731721a195cbb73e016b1de30b0fbe7839b725500239d8513757dd978"), looks := false }, kinds := [], alts := [], laidByText := true, laidKinds := [.data], laidTests := true, laidLooks := .later }
def SensDeadlinesCardSaid : Prop := Claim7.holds Tryz.pinned (.plain (OpenSpec.ofChange sensDeadlinesSpec)) sensDeadlinesCard

/-- THE SECOND FORM's CARD OF 'remontoirlaw39.SensCosts'. -/
def sensCostsUptoCard : Claim7 := { stood := { row := sensCostsUptoRow, standIns := [], harness := (true, "46c5840731721a195cbb73e016b1de30b0fbe7839b725500239d8513757dd978"), looks := false }, kinds := [], alts := [], laidByText := true, laidKinds := [.data], laidTests := true, laidLooks := .later }
def SensCostsUptoCardSaid : Prop := Claim7.holds Tryz.pinned (.plain (OpenSpec.upto sensCostsSpec)) sensCostsUptoCard

/-- THE SECOND FORM's CARD OF 'remontoirlaw39.SensScales'. -/
def sensScalesUptoCard : Claim7 := { stood := { row := sensScalesUptoRow, standIns := [], harness := (true, "46c5840731721a195cbb73e016b1de30b0fbe7839b725500239d8513757dd978"), looks := false }, kinds := [], alts := [], laidByText := true, laidKinds := [.data], laidTests := true, laidLooks := .later }
def SensScalesUptoCardSaid : Prop := Claim7.holds Tryz.pinned (.plain (OpenSpec.upto sensScalesSpec)) sensScalesUptoCard

/-- THE SECOND FORM's CARD OF 'remontoirlaw39.SensDeadlines'. -/
def sensDeadlinesUptoCard : Claim7 := { stood := { row := sensDeadlinesUptoRow, standIns := [], harness := (true, "46c5840731721a195cbb73e016b1de30b0fbe7839b725500239d8513757dd978"), looks := false }, kinds := [], alts := [], laidByText := true, laidKinds := [.data], laidTests := true, laidLooks := .later }
def SensDeadlinesUptoCardSaid : Prop := Claim7.holds Tryz.pinned (.plain (OpenSpec.upto sensDeadlinesSpec)) sensDeadlinesUptoCard
end Rows
end Go.Proofs.YtnnnjcgddmhdmaaGreatDoor
