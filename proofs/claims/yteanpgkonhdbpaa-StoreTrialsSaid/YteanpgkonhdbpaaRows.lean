/-
  No cell of these rows narrows 'for every input' (looked for: loops, veiled, ifaces, maps, wideKeys, modest, calm, conditions, laid).
  DERIVED. THE GIVEN ROWS OF THIS SEAT. 9 by the template 'for every input the law returns true; each argument reads behind the call as it read before'; 0 by the template 'total and deterministic' (their statements: YteanpgkonhdbpaaTotals.lean).
  GIVEN WITH THE SEED: the statements are not yours to turn. If you find one false, say at which input.
  Laid BY PROGRAM, IN A SANDBOX (cutbox-rows.mjs): the forced cells as the released guide's own fill.sh prints them over the translation 0c7d91d6a80fc59a… (all of the seat's roots in one cut). By AI agents, Wed Nov 11 2026. No macro, syntax, notation, axiom, sorry.
-/
import Derived.Test.YteanpgkonhdbpaaChecked
import GoSem.Claim
import GoSem.ClaimJoined
import GoSem.ClaimMapViews
import Derived.JoinedTies
import Derived.KernelRfl
namespace Go.Proofs.Yteanpgkonhdbpaa
/- THE CELL 'sum', in the pinned program and in every row, IS THE sha256 OF THE DUMP (.gsa) THAT YteanpgkonhdbpaaProg.lean LOADS. Nothing in Lean hashes anything: it is a label: what it is worth is what the hold of that sum in a sandbox is worth. -/
noncomputable def Try.pinned : Pinned := { name := "yteanpgkonhdbpaa", sum := "0c7d91d6a80fc59a9374f9cbe9bb9c0caf0967e04cf6b2bbddb579743c7ed9e4", checked := Try.checked }
namespace Rows
def none {H : Type} : Left H := { results := [], args := [] }

/-- 'remontoirlaw47.JournalOpens': WHATEVER THE INPUT: true; the input reads as it did. -/
def journalOpensSpec : ChangeSpec := { name := "journalOpens", fn := fun _ => fun
  | [d] => { results := [.lit (.bool true)], args := [d] }
  | _ => none }
def journalOpensRow : OpenClaim := { program := "yteanpgkonhdbpaa", sum := "0c7d91d6a80fc59a9374f9cbe9bb9c0caf0967e04cf6b2bbddb579743c7ed9e4", func := "remontoir/remontoirlaw47.JournalOpens", spec := "journalOpens", unfollowed := true, recurses := true, apart := false }
def JournalOpensSaid : Prop := journalOpensRow.holds Try.pinned (OpenSpec.ofChange journalOpensSpec)

/-- ITS FALSE NEIGHBOUR: 'it returns false'. Refute it at one input. -/
def journalOpensWrong : ChangeSpec := { name := "journalOpens", fn := fun _ => fun
  | [d] => { results := [.lit (.bool false)], args := [d] }
  | _ => none }
def JournalOpensWrongFalsely : Prop := journalOpensRow.holds Try.pinned (OpenSpec.ofChange journalOpensWrong)

/-- 'remontoirlaw47.JournalWhole': WHATEVER THE INPUT: true; the input reads as it did. -/
def journalWholeSpec : ChangeSpec := { name := "journalWhole", fn := fun _ => fun
  | [d1, d2] => { results := [.lit (.bool true)], args := [d1, d2] }
  | _ => none }
def journalWholeRow : OpenClaim := { program := "yteanpgkonhdbpaa", sum := "0c7d91d6a80fc59a9374f9cbe9bb9c0caf0967e04cf6b2bbddb579743c7ed9e4", func := "remontoir/remontoirlaw47.JournalWhole", spec := "journalWhole", unfollowed := true, recurses := true, apart := false }
def JournalWholeSaid : Prop := journalWholeRow.holds Try.pinned (OpenSpec.ofChange journalWholeSpec)

/-- ITS FALSE NEIGHBOUR: 'it returns false'. Refute it at one input. -/
def journalWholeWrong : ChangeSpec := { name := "journalWhole", fn := fun _ => fun
  | [d1, d2] => { results := [.lit (.bool false)], args := [d1, d2] }
  | _ => none }
def JournalWholeWrongFalsely : Prop := journalWholeRow.holds Try.pinned (OpenSpec.ofChange journalWholeWrong)

/-- 'remontoirlaw08.BankFits': WHATEVER THE INPUT: true; the input reads as it did. -/
def bankFitsSpec : ChangeSpec := { name := "bankFits", fn := fun _ => fun
  | [d1, d2, d3] => { results := [.lit (.bool true)], args := [d1, d2, d3] }
  | _ => none }
def bankFitsRow : OpenClaim := { program := "yteanpgkonhdbpaa", sum := "0c7d91d6a80fc59a9374f9cbe9bb9c0caf0967e04cf6b2bbddb579743c7ed9e4", func := "remontoir/remontoirlaw08.BankFits", spec := "bankFits", unfollowed := true, recurses := true, apart := false }
def BankFitsSaid : Prop := bankFitsRow.holds Try.pinned (OpenSpec.ofChange bankFitsSpec)

/-- ITS FALSE NEIGHBOUR: 'it returns false'. Refute it at one input. -/
def bankFitsWrong : ChangeSpec := { name := "bankFits", fn := fun _ => fun
  | [d1, d2, d3] => { results := [.lit (.bool false)], args := [d1, d2, d3] }
  | _ => none }
def BankFitsWrongFalsely : Prop := bankFitsRow.holds Try.pinned (OpenSpec.ofChange bankFitsWrong)

/-- 'remontoirlaw08.BankWhole': WHATEVER THE INPUT: true; the input reads as it did. -/
def bankWholeSpec : ChangeSpec := { name := "bankWhole", fn := fun _ => fun
  | [d] => { results := [.lit (.bool true)], args := [d] }
  | _ => none }
def bankWholeRow : OpenClaim := { program := "yteanpgkonhdbpaa", sum := "0c7d91d6a80fc59a9374f9cbe9bb9c0caf0967e04cf6b2bbddb579743c7ed9e4", func := "remontoir/remontoirlaw08.BankWhole", spec := "bankWhole", unfollowed := true, recurses := true, apart := false }
def BankWholeSaid : Prop := bankWholeRow.holds Try.pinned (OpenSpec.ofChange bankWholeSpec)

/-- ITS FALSE NEIGHBOUR: 'it returns false'. Refute it at one input. -/
def bankWholeWrong : ChangeSpec := { name := "bankWhole", fn := fun _ => fun
  | [d] => { results := [.lit (.bool false)], args := [d] }
  | _ => none }
def BankWholeWrongFalsely : Prop := bankWholeRow.holds Try.pinned (OpenSpec.ofChange bankWholeWrong)

/-- 'remontoirlaw08.BankPlays': WHATEVER THE INPUT: true; the input reads as it did. -/
def bankPlaysSpec : ChangeSpec := { name := "bankPlays", fn := fun _ => fun
  | [d] => { results := [.lit (.bool true)], args := [d] }
  | _ => none }
def bankPlaysRow : OpenClaim := { program := "yteanpgkonhdbpaa", sum := "0c7d91d6a80fc59a9374f9cbe9bb9c0caf0967e04cf6b2bbddb579743c7ed9e4", func := "remontoir/remontoirlaw08.BankPlays", spec := "bankPlays", unfollowed := true, recurses := true, apart := false }
def BankPlaysSaid : Prop := bankPlaysRow.holds Try.pinned (OpenSpec.ofChange bankPlaysSpec)

/-- ITS FALSE NEIGHBOUR: 'it returns false'. Refute it at one input. -/
def bankPlaysWrong : ChangeSpec := { name := "bankPlays", fn := fun _ => fun
  | [d] => { results := [.lit (.bool false)], args := [d] }
  | _ => none }
def BankPlaysWrongFalsely : Prop := bankPlaysRow.holds Try.pinned (OpenSpec.ofChange bankPlaysWrong)

/-- 'remontoirlaw09.StoreFits': WHATEVER THE INPUT: true; the input reads as it did. -/
def storeFitsSpec : ChangeSpec := { name := "storeFits", fn := fun _ => fun
  | [d1, d2, d3] => { results := [.lit (.bool true)], args := [d1, d2, d3] }
  | _ => none }
def storeFitsRow : OpenClaim := { program := "yteanpgkonhdbpaa", sum := "0c7d91d6a80fc59a9374f9cbe9bb9c0caf0967e04cf6b2bbddb579743c7ed9e4", func := "remontoir/remontoirlaw09.StoreFits", spec := "storeFits", unfollowed := true, recurses := true, apart := false }
def StoreFitsSaid : Prop := storeFitsRow.holds Try.pinned (OpenSpec.ofChange storeFitsSpec)

/-- ITS FALSE NEIGHBOUR: 'it returns false'. Refute it at one input. -/
def storeFitsWrong : ChangeSpec := { name := "storeFits", fn := fun _ => fun
  | [d1, d2, d3] => { results := [.lit (.bool false)], args := [d1, d2, d3] }
  | _ => none }
def StoreFitsWrongFalsely : Prop := storeFitsRow.holds Try.pinned (OpenSpec.ofChange storeFitsWrong)

/-- 'remontoirlaw09.StoreTells': WHATEVER THE INPUT: true; the input reads as it did. -/
def storeTellsSpec : ChangeSpec := { name := "storeTells", fn := fun _ => fun
  | [d1, d2] => { results := [.lit (.bool true)], args := [d1, d2] }
  | _ => none }
def storeTellsRow : OpenClaim := { program := "yteanpgkonhdbpaa", sum := "0c7d91d6a80fc59a9374f9cbe9bb9c0caf0967e04cf6b2bbddb579743c7ed9e4", func := "remontoir/remontoirlaw09.StoreTells", spec := "storeTells", unfollowed := true, recurses := true, apart := false }
def StoreTellsSaid : Prop := storeTellsRow.holds Try.pinned (OpenSpec.ofChange storeTellsSpec)

/-- ITS FALSE NEIGHBOUR: 'it returns false'. Refute it at one input. -/
def storeTellsWrong : ChangeSpec := { name := "storeTells", fn := fun _ => fun
  | [d1, d2] => { results := [.lit (.bool false)], args := [d1, d2] }
  | _ => none }
def StoreTellsWrongFalsely : Prop := storeTellsRow.holds Try.pinned (OpenSpec.ofChange storeTellsWrong)

/-- 'remontoirlaw09.StoreKeeps': WHATEVER THE INPUT: true; the input reads as it did. -/
def storeKeepsSpec : ChangeSpec := { name := "storeKeeps", fn := fun _ => fun
  | [d1, d2] => { results := [.lit (.bool true)], args := [d1, d2] }
  | _ => none }
def storeKeepsRow : OpenClaim := { program := "yteanpgkonhdbpaa", sum := "0c7d91d6a80fc59a9374f9cbe9bb9c0caf0967e04cf6b2bbddb579743c7ed9e4", func := "remontoir/remontoirlaw09.StoreKeeps", spec := "storeKeeps", unfollowed := true, recurses := true, apart := false }
def StoreKeepsSaid : Prop := storeKeepsRow.holds Try.pinned (OpenSpec.ofChange storeKeepsSpec)

/-- ITS FALSE NEIGHBOUR: 'it returns false'. Refute it at one input. -/
def storeKeepsWrong : ChangeSpec := { name := "storeKeeps", fn := fun _ => fun
  | [d1, d2] => { results := [.lit (.bool false)], args := [d1, d2] }
  | _ => none }
def StoreKeepsWrongFalsely : Prop := storeKeepsRow.holds Try.pinned (OpenSpec.ofChange storeKeepsWrong)

/-- 'remontoirlaw09.StoreTrials': WHATEVER THE INPUT: true; the input reads as it did. -/
def storeTrialsSpec : ChangeSpec := { name := "storeTrials", fn := fun _ => fun
  | [d1, d2, d3] => { results := [.lit (.bool true)], args := [d1, d2, d3] }
  | _ => none }
def storeTrialsRow : OpenClaim := { program := "yteanpgkonhdbpaa", sum := "0c7d91d6a80fc59a9374f9cbe9bb9c0caf0967e04cf6b2bbddb579743c7ed9e4", func := "remontoir/remontoirlaw09.StoreTrials", spec := "storeTrials", unfollowed := true, recurses := true, apart := false }
def StoreTrialsSaid : Prop := storeTrialsRow.holds Try.pinned (OpenSpec.ofChange storeTrialsSpec)

/-- ITS FALSE NEIGHBOUR: 'it returns false'. Refute it at one input. -/
def storeTrialsWrong : ChangeSpec := { name := "storeTrials", fn := fun _ => fun
  | [d1, d2, d3] => { results := [.lit (.bool false)], args := [d1, d2, d3] }
  | _ => none }
def StoreTrialsWrongFalsely : Prop := storeTrialsRow.holds Try.pinned (OpenSpec.ofChange storeTrialsWrong)

/- THE SECOND FORM. 'bulk': how many values and letters a reading holds, each counted each time it is reached (what is shared counts as often as it is met; a slice's spare places count too). A statement '..UptoSaid' is the law's where the arguments, and the package variables that the reading takes, are together of bulk at most 1048576: NARROWER than '..Said'. Prove '..Said' where nothing that the law and all that it calls make is longer than what came in: it says more and counts as full. Else prove '..UptoSaid'. A law counts once. -/
mutual
def uptoBulk {H : Type} : DataW H → Nat
  | .lit (.string bytes) => bytes.length + 1
  | .lit _ => 1
  | .nil => 1
  | .ptr d => uptoBulk d + 1
  | .slice elems spare => uptoBulkAll elems + uptoBulkAll spare + 1
  | .agg parts => uptoBulkAll parts + 1
  | .iface _ d => uptoBulk d + 1
  | .map entries => uptoBulkEntries entries + 1
  | .held _ => 1
def uptoBulkAll {H : Type} : List (DataW H) → Nat
  | [] => 0
  | d :: r => uptoBulk d + uptoBulkAll r
def uptoBulkEntries {H : Type} : List (Lit × DataW H) → Nat
  | [] => 0
  | x :: r => uptoBulkEntry x + uptoBulkEntries r
def uptoBulkEntry {H : Type} : Lit × DataW H → Nat
  | (.string bytes, d) => bytes.length + uptoBulk d + 1
  | (_, d) => uptoBulk d + 1
 end
def uptoSmall : (H : Type) → List (DataW H) → Bool := fun _ ds => decide (uptoBulkAll ds ≤ 1048576)
def OpenSpec.upto (s : _root_.Go.ChangeSpec) : _root_.Go.OpenSpec := { _root_.Go.OpenSpec.ofChange s with cond := some uptoSmall }

/-- 'remontoirlaw47.JournalOpens', WHERE WHAT IT READS IS OF BULK AT MOST 1048576: true; the input reads as it did. -/
def journalOpensUptoRow : OpenClaim := { program := "yteanpgkonhdbpaa", sum := "0c7d91d6a80fc59a9374f9cbe9bb9c0caf0967e04cf6b2bbddb579743c7ed9e4", func := "remontoir/remontoirlaw47.JournalOpens", spec := "journalOpens", unfollowed := true, recurses := true, apart := false, narrowed := true }
def JournalOpensUptoSaid : Prop := journalOpensUptoRow.holds Try.pinned (OpenSpec.upto journalOpensSpec)

/-- 'remontoirlaw47.JournalWhole', WHERE WHAT IT READS IS OF BULK AT MOST 1048576: true; the input reads as it did. -/
def journalWholeUptoRow : OpenClaim := { program := "yteanpgkonhdbpaa", sum := "0c7d91d6a80fc59a9374f9cbe9bb9c0caf0967e04cf6b2bbddb579743c7ed9e4", func := "remontoir/remontoirlaw47.JournalWhole", spec := "journalWhole", unfollowed := true, recurses := true, apart := false, narrowed := true }
def JournalWholeUptoSaid : Prop := journalWholeUptoRow.holds Try.pinned (OpenSpec.upto journalWholeSpec)

/-- 'remontoirlaw08.BankFits', WHERE WHAT IT READS IS OF BULK AT MOST 1048576: true; the input reads as it did. -/
def bankFitsUptoRow : OpenClaim := { program := "yteanpgkonhdbpaa", sum := "0c7d91d6a80fc59a9374f9cbe9bb9c0caf0967e04cf6b2bbddb579743c7ed9e4", func := "remontoir/remontoirlaw08.BankFits", spec := "bankFits", unfollowed := true, recurses := true, apart := false, narrowed := true }
def BankFitsUptoSaid : Prop := bankFitsUptoRow.holds Try.pinned (OpenSpec.upto bankFitsSpec)

/-- 'remontoirlaw08.BankWhole', WHERE WHAT IT READS IS OF BULK AT MOST 1048576: true; the input reads as it did. -/
def bankWholeUptoRow : OpenClaim := { program := "yteanpgkonhdbpaa", sum := "0c7d91d6a80fc59a9374f9cbe9bb9c0caf0967e04cf6b2bbddb579743c7ed9e4", func := "remontoir/remontoirlaw08.BankWhole", spec := "bankWhole", unfollowed := true, recurses := true, apart := false, narrowed := true }
def BankWholeUptoSaid : Prop := bankWholeUptoRow.holds Try.pinned (OpenSpec.upto bankWholeSpec)

/-- 'remontoirlaw08.BankPlays', WHERE WHAT IT READS IS OF BULK AT MOST 1048576: true; the input reads as it did. -/
def bankPlaysUptoRow : OpenClaim := { program := "yteanpgkonhdbpaa", sum := "0c7d91d6a80fc59a9374f9cbe9bb9c0caf0967e04cf6b2bbddb579743c7ed9e4", func := "remontoir/remontoirlaw08.BankPlays", spec := "bankPlays", unfollowed := true, recurses := true, apart := false, narrowed := true }
def BankPlaysUptoSaid : Prop := bankPlaysUptoRow.holds Try.pinned (OpenSpec.upto bankPlaysSpec)

/-- 'remontoirlaw09.StoreFits', WHERE WHAT IT READS IS OF BULK AT MOST 1048576: true; the input reads as it did. -/
def storeFitsUptoRow : OpenClaim := { program := "yteanpgkonhdbpaa", sum := "0c7d91d6a80fc59a9374f9cbe9bb9c0caf0967e04cf6b2bbddb579743c7ed9e4", func := "remontoir/remontoirlaw09.StoreFits", spec := "storeFits", unfollowed := true, recurses := true, apart := false, narrowed := true }
def StoreFitsUptoSaid : Prop := storeFitsUptoRow.holds Try.pinned (OpenSpec.upto storeFitsSpec)

/-- 'remontoirlaw09.StoreTells', WHERE WHAT IT READS IS OF BULK AT MOST 1048576: true; the input reads as it did. -/
def storeTellsUptoRow : OpenClaim := { program := "yteanpgkonhdbpaa", sum := "0c7d91d6a80fc59a9374f9cbe9bb9c0caf0967e04cf6b2bbddb579743c7ed9e4", func := "remontoir/remontoirlaw09.StoreTells", spec := "storeTells", unfollowed := true, recurses := true, apart := false, narrowed := true }
def StoreTellsUptoSaid : Prop := storeTellsUptoRow.holds Try.pinned (OpenSpec.upto storeTellsSpec)

/-- 'remontoirlaw09.StoreKeeps', WHERE WHAT IT READS IS OF BULK AT MOST 1048576: true; the input reads as it did. -/
def storeKeepsUptoRow : OpenClaim := { program := "yteanpgkonhdbpaa", sum := "0c7d91d6a80fc59a9374f9cbe9bb9c0caf0967e04cf6b2bbddb579743c7ed9e4", func := "remontoir/remontoirlaw09.StoreKeeps", spec := "storeKeeps", unfollowed := true, recurses := true, apart := false, narrowed := true }
def StoreKeepsUptoSaid : Prop := storeKeepsUptoRow.holds Try.pinned (OpenSpec.upto storeKeepsSpec)

/-- 'remontoirlaw09.StoreTrials', WHERE WHAT IT READS IS OF BULK AT MOST 1048576: true; the input reads as it did. -/
def storeTrialsUptoRow : OpenClaim := { program := "yteanpgkonhdbpaa", sum := "0c7d91d6a80fc59a9374f9cbe9bb9c0caf0967e04cf6b2bbddb579743c7ed9e4", func := "remontoir/remontoirlaw09.StoreTrials", spec := "storeTrials", unfollowed := true, recurses := true, apart := false, narrowed := true }
def StoreTrialsUptoSaid : Prop := storeTrialsUptoRow.holds Try.pinned (OpenSpec.upto storeTrialsSpec)

end Rows
end Go.Proofs.Yteanpgkonhdbpaa
