/-
  DERIVED. GIVEN WITH THE SEED: THE CARDS: each row of YtajlkfhekligeaaDoorRows.lean that lists a variable, with what it lists TIED to the program's text (the seventh form; the later family's looks); each row that meets fmt, with fmt's text TOLD by the authors' own Lean function (tested against real Go, not proved from fmt's source: count such statements apart). THE CARD IS WHAT COUNTS. Prove the row's statement (the work); the ties are given (YtajlkfhekligeaaDoorTie.lean); close each card by the builder's one call (the guide's Derived/Test/ToyasCard.lean, 'card_holds'). Laid BY PROGRAM, IN A SANDBOX (cutbox-door.mjs). By AI agents, Wed Nov 11 2026. No macro, syntax, notation, axiom, sorry.
-/
import Derived.Test.YtajlkfhekligeaaDoorRows
import GoSem.ClaimSeven
namespace Go.Proofs.YtajlkfhekligeaaDoor
namespace Rows

/-- THE TIED CARD OF 'remontoirlaw53.SheetRows'. -/
def sheetRowsCard : Claim7 := { stood := { row := sheetRowsRow, standIns := [], harness := (true, "3aa9e32e034621aafd6ba942ff9ba889d3b37d466d9ce3ff7f63d576b815b7c0"), looks := false }, kinds := [], alts := [], laidByText := true, laidKinds := [.data], laidTests := true, laidLooks := .later }
def SheetRowsCardSaid : Prop := Claim7.holds Tryd.pinned (.plain (OpenSpec.ofChange sheetRowsSpec)) sheetRowsCard

/-- THE TIED CARD OF 'remontoirlaw18.SteadyBusy'. -/
def steadyBusyCard : Claim7 := { stood := { row := steadyBusyRow, standIns := [], harness := (true, "3aa9e32e034621aafd6ba942ff9ba889d3b37d466d9ce3ff7f63d576b815b7c0"), looks := false }, kinds := [], alts := [], laidByText := true, laidKinds := [.data], laidTests := true, laidLooks := .later }
def SteadyBusyCardSaid : Prop := Claim7.holds Tryd.pinned (.plain (OpenSpec.ofChange steadyBusySpec)) steadyBusyCard

/-- THE TIED CARD OF 'remontoirlaw18.SteadyGrows'. -/
def steadyGrowsCard : Claim7 := { stood := { row := steadyGrowsRow, standIns := [], harness := (true, "3aa9e32e034621aafd6ba942ff9ba889d3b37d466d9ce3ff7f63d576b815b7c0"), looks := false }, kinds := [], alts := [], laidByText := true, laidKinds := [.data], laidTests := true, laidLooks := .later }
def SteadyGrowsCardSaid : Prop := Claim7.holds Tryd.pinned (.plain (OpenSpec.ofChange steadyGrowsSpec)) steadyGrowsCard

/-- THE TIED CARD OF 'remontoirlaw11.CodecWrites'. -/
def codecWritesCard : Claim7 := { stood := { row := codecWritesRow, standIns := [], harness := (true, "3aa9e32e034621aafd6ba942ff9ba889d3b37d466d9ce3ff7f63d576b815b7c0"), looks := false }, kinds := [], alts := [], laidByText := true, laidKinds := [.data], laidTests := true, laidLooks := .later }
def CodecWritesCardSaid : Prop := Claim7.holds Tryd.pinned (.plain (OpenSpec.ofChange codecWritesSpec)) codecWritesCard

/-- THE TIED CARD OF 'remontoirlaw18.SteadyTells'. -/
def steadyTellsCard : Claim7 := { stood := { row := steadyTellsRow, standIns := [], harness := (true, "3aa9e32e034621aafd6ba942ff9ba889d3b37d466d9ce3ff7f63d576b815b7c0"), looks := false }, kinds := [], alts := [], laidByText := true, laidKinds := [.data], laidTests := true, laidLooks := .later }
def SteadyTellsCardSaid : Prop := Claim7.holds Tryd.pinned (.plain (OpenSpec.ofChange steadyTellsSpec)) steadyTellsCard

/-- THE TIED CARD OF 'remontoirlaw11.CodecReads'. -/
def codecReadsCard : Claim7 := { stood := { row := codecReadsRow, standIns := [], harness := (true, "3aa9e32e034621aafd6ba942ff9ba889d3b37d466d9ce3ff7f63d576b815b7c0"), looks := false }, kinds := [], alts := [], laidByText := true, laidKinds := [.data], laidTests := true, laidLooks := .later }
def CodecReadsCardSaid : Prop := Claim7.holds Tryd.pinned (.plain (OpenSpec.ofChange codecReadsSpec)) codecReadsCard

/-- THE TIED CARD OF 'remontoirlaw11.CodecBack'. -/
def codecBackCard : Claim7 := { stood := { row := codecBackRow, standIns := [], harness := (true, "3aa9e32e034621aafd6ba942ff9ba889d3b37d466d9ce3ff7f63d576b815b7c0"), looks := false }, kinds := [], alts := [], laidByText := true, laidKinds := [.data], laidTests := true, laidLooks := .later }
def CodecBackCardSaid : Prop := Claim7.holds Tryd.pinned (.plain (OpenSpec.ofChange codecBackSpec)) codecBackCard

/-- THE SECOND FORM's CARD OF 'remontoirlaw53.SheetRows'. -/
def sheetRowsUptoCard : Claim7 := { stood := { row := sheetRowsUptoRow, standIns := [], harness := (true, "3aa9e32e034621aafd6ba942ff9ba889d3b37d466d9ce3ff7f63d576b815b7c0"), looks := false }, kinds := [], alts := [], laidByText := true, laidKinds := [.data], laidTests := true, laidLooks := .later }
def SheetRowsUptoCardSaid : Prop := Claim7.holds Tryd.pinned (.plain (OpenSpec.upto sheetRowsSpec)) sheetRowsUptoCard

/-- THE SECOND FORM's CARD OF 'remontoirlaw18.SteadyBusy'. -/
def steadyBusyUptoCard : Claim7 := { stood := { row := steadyBusyUptoRow, standIns := [], harness := (true, "3aa9e32e034621aafd6ba942ff9ba889d3b37d466d9ce3ff7f63d576b815b7c0"), looks := false }, kinds := [], alts := [], laidByText := true, laidKinds := [.data], laidTests := true, laidLooks := .later }
def SteadyBusyUptoCardSaid : Prop := Claim7.holds Tryd.pinned (.plain (OpenSpec.upto steadyBusySpec)) steadyBusyUptoCard

/-- THE SECOND FORM's CARD OF 'remontoirlaw18.SteadyGrows'. -/
def steadyGrowsUptoCard : Claim7 := { stood := { row := steadyGrowsUptoRow, standIns := [], harness := (true, "3aa9e32e034621aafd6ba942ff9ba889d3b37d466d9ce3ff7f63d576b815b7c0"), looks := false }, kinds := [], alts := [], laidByText := true, laidKinds := [.data], laidTests := true, laidLooks := .later }
def SteadyGrowsUptoCardSaid : Prop := Claim7.holds Tryd.pinned (.plain (OpenSpec.upto steadyGrowsSpec)) steadyGrowsUptoCard

/-- THE SECOND FORM's CARD OF 'remontoirlaw11.CodecWrites'. -/
def codecWritesUptoCard : Claim7 := { stood := { row := codecWritesUptoRow, standIns := [], harness := (true, "3aa9e32e034621aafd6ba942ff9ba889d3b37d466d9ce3ff7f63d576b815b7c0"), looks := false }, kinds := [], alts := [], laidByText := true, laidKinds := [.data], laidTests := true, laidLooks := .later }
def CodecWritesUptoCardSaid : Prop := Claim7.holds Tryd.pinned (.plain (OpenSpec.upto codecWritesSpec)) codecWritesUptoCard

/-- THE SECOND FORM's CARD OF 'remontoirlaw18.SteadyTells'. -/
def steadyTellsUptoCard : Claim7 := { stood := { row := steadyTellsUptoRow, standIns := [], harness := (true, "3aa9e32e034621aafd6ba942ff9ba889d3b37d466d9ce3ff7f63d576b815b7c0"), looks := false }, kinds := [], alts := [], laidByText := true, laidKinds := [.data], laidTests := true, laidLooks := .later }
def SteadyTellsUptoCardSaid : Prop := Claim7.holds Tryd.pinned (.plain (OpenSpec.upto steadyTellsSpec)) steadyTellsUptoCard

/-- THE SECOND FORM's CARD OF 'remontoirlaw11.CodecReads'. -/
def codecReadsUptoCard : Claim7 := { stood := { row := codecReadsUptoRow, standIns := [], harness := (true, "3aa9e32e034621aafd6ba942ff9ba889d3b37d466d9ce3ff7f63d576b815b7c0"), looks := false }, kinds := [], alts := [], laidByText := true, laidKinds := [.data], laidTests := true, laidLooks := .later }
def CodecReadsUptoCardSaid : Prop := Claim7.holds Tryd.pinned (.plain (OpenSpec.upto codecReadsSpec)) codecReadsUptoCard

/-- THE SECOND FORM's CARD OF 'remontoirlaw11.CodecBack'. -/
def codecBackUptoCard : Claim7 := { stood := { row := codecBackUptoRow, standIns := [], harness := (true, "3aa9e32e034621aafd6ba942ff9ba889d3b37d466d9ce3ff7f63d576b815b7c0"), looks := false }, kinds := [], alts := [], laidByText := true, laidKinds := [.data], laidTests := true, laidLooks := .later }
def CodecBackUptoCardSaid : Prop := Claim7.holds Tryd.pinned (.plain (OpenSpec.upto codecBackSpec)) codecBackUptoCard
end Rows
end Go.Proofs.YtajlkfhekligeaaDoor
