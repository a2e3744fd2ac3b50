/-
  No cell of these rows narrows 'for every input' (looked for: loops, veiled, ifaces, maps, wideKeys, modest, calm, conditions, laid).
  DERIVED. THE GIVEN ROWS OF THIS SEAT. 3 by the template 'for every input the law returns true; each argument reads behind the call as it read before'; 0 by the template 'total and deterministic' (their statements: YtmhaomoohacjjaaTotals.lean).
  GIVEN WITH THE SEED: the statements are not yours to turn. If you find one false, say at which input.
  Laid BY PROGRAM, IN A SANDBOX (cutbox-rows.mjs): the forced cells as the released guide's own fill.sh prints them over the translation 14d8f1b16b6f8d45… (all of the seat's roots in one cut). By AI agents, Wed Nov 11 2026. No macro, syntax, notation, axiom, sorry.
-/
import Derived.Test.YtmhaomoohacjjaaChecked
import GoSem.Claim
import GoSem.ClaimJoined
import GoSem.ClaimMapViews
import Derived.JoinedTies
import Derived.KernelRfl
namespace Go.Proofs.Ytmhaomoohacjjaa
/- THE CELL 'sum', in the pinned program and in every row, IS THE sha256 OF THE DUMP (.gsa) THAT YtmhaomoohacjjaaProg.lean LOADS. Nothing in Lean hashes anything: it is a label: what it is worth is what the hold of that sum in a sandbox is worth. -/
noncomputable def Try.pinned : Pinned := { name := "ytmhaomoohacjjaa", sum := "14d8f1b16b6f8d455752d5a912b028a295dbee29e4351cf92423900463e81d75", checked := Try.checked }
namespace Rows
def none {H : Type} : Left H := { results := [], args := [] }

/-- 'remontoirlaw01.DigitsNumbers': WHATEVER THE INPUT: true; the input reads as it did. -/
def digitsNumbersSpec : ChangeSpec := { name := "digitsNumbers", fn := fun _ => fun
  | [d1, d2] => { results := [.lit (.bool true)], args := [d1, d2] }
  | _ => none }
def digitsNumbersRow : OpenClaim := { program := "ytmhaomoohacjjaa", sum := "14d8f1b16b6f8d455752d5a912b028a295dbee29e4351cf92423900463e81d75", func := "remontoir/remontoirlaw01.DigitsNumbers", spec := "digitsNumbers", unfollowed := true, recurses := true, apart := false }
def DigitsNumbersSaid : Prop := digitsNumbersRow.holds Try.pinned (OpenSpec.ofChange digitsNumbersSpec)

/-- ITS FALSE NEIGHBOUR: 'it returns false'. Refute it at one input. -/
def digitsNumbersWrong : ChangeSpec := { name := "digitsNumbers", fn := fun _ => fun
  | [d1, d2] => { results := [.lit (.bool false)], args := [d1, d2] }
  | _ => none }
def DigitsNumbersWrongFalsely : Prop := digitsNumbersRow.holds Try.pinned (OpenSpec.ofChange digitsNumbersWrong)

/-- 'remontoirlaw01.DigitsWords': WHATEVER THE INPUT: true; the input reads as it did. -/
def digitsWordsSpec : ChangeSpec := { name := "digitsWords", fn := fun _ => fun
  | [d1, d2] => { results := [.lit (.bool true)], args := [d1, d2] }
  | _ => none }
def digitsWordsRow : OpenClaim := { program := "ytmhaomoohacjjaa", sum := "14d8f1b16b6f8d455752d5a912b028a295dbee29e4351cf92423900463e81d75", func := "remontoir/remontoirlaw01.DigitsWords", spec := "digitsWords", unfollowed := true, recurses := true, apart := false }
def DigitsWordsSaid : Prop := digitsWordsRow.holds Try.pinned (OpenSpec.ofChange digitsWordsSpec)

/-- ITS FALSE NEIGHBOUR: 'it returns false'. Refute it at one input. -/
def digitsWordsWrong : ChangeSpec := { name := "digitsWords", fn := fun _ => fun
  | [d1, d2] => { results := [.lit (.bool false)], args := [d1, d2] }
  | _ => none }
def DigitsWordsWrongFalsely : Prop := digitsWordsRow.holds Try.pinned (OpenSpec.ofChange digitsWordsWrong)

/-- 'remontoirlaw01.DigitsPieces': WHATEVER THE INPUT: true; the input reads as it did. -/
def digitsPiecesSpec : ChangeSpec := { name := "digitsPieces", fn := fun _ => fun
  | [d] => { results := [.lit (.bool true)], args := [d] }
  | _ => none }
def digitsPiecesRow : OpenClaim := { program := "ytmhaomoohacjjaa", sum := "14d8f1b16b6f8d455752d5a912b028a295dbee29e4351cf92423900463e81d75", func := "remontoir/remontoirlaw01.DigitsPieces", spec := "digitsPieces", unfollowed := true, recurses := true, apart := false }
def DigitsPiecesSaid : Prop := digitsPiecesRow.holds Try.pinned (OpenSpec.ofChange digitsPiecesSpec)

/-- ITS FALSE NEIGHBOUR: 'it returns false'. Refute it at one input. -/
def digitsPiecesWrong : ChangeSpec := { name := "digitsPieces", fn := fun _ => fun
  | [d] => { results := [.lit (.bool false)], args := [d] }
  | _ => none }
def DigitsPiecesWrongFalsely : Prop := digitsPiecesRow.holds Try.pinned (OpenSpec.ofChange digitsPiecesWrong)

/- THE SECOND FORM. 'bulk': how many values and letters a reading holds, each counted each time it is reached (what is shared counts as often as it is met; a slice's spare places count too). A statement '..UptoSaid' is the law's where the arguments, and the package variables that the reading takes, are together of bulk at most 1048576: NARROWER than '..Said'. Prove '..Said' where nothing that the law and all that it calls make is longer than what came in: it says more and counts as full. Else prove '..UptoSaid'. A law counts once. -/
mutual
def uptoBulk {H : Type} : DataW H → Nat
  | .lit (.string bytes) => bytes.length + 1
  | .lit _ => 1
  | .nil => 1
  | .ptr d => uptoBulk d + 1
  | .slice elems spare => uptoBulkAll elems + uptoBulkAll spare + 1
  | .agg parts => uptoBulkAll parts + 1
  | .iface _ d => uptoBulk d + 1
  | .map entries => uptoBulkEntries entries + 1
  | .held _ => 1
def uptoBulkAll {H : Type} : List (DataW H) → Nat
  | [] => 0
  | d :: r => uptoBulk d + uptoBulkAll r
def uptoBulkEntries {H : Type} : List (Lit × DataW H) → Nat
  | [] => 0
  | x :: r => uptoBulkEntry x + uptoBulkEntries r
def uptoBulkEntry {H : Type} : Lit × DataW H → Nat
  | (.string bytes, d) => bytes.length + uptoBulk d + 1
  | (_, d) => uptoBulk d + 1
 end
def uptoSmall : (H : Type) → List (DataW H) → Bool := fun _ ds => decide (uptoBulkAll ds ≤ 1048576)
def OpenSpec.upto (s : _root_.Go.ChangeSpec) : _root_.Go.OpenSpec := { _root_.Go.OpenSpec.ofChange s with cond := some uptoSmall }

/-- 'remontoirlaw01.DigitsNumbers', WHERE WHAT IT READS IS OF BULK AT MOST 1048576: true; the input reads as it did. -/
def digitsNumbersUptoRow : OpenClaim := { program := "ytmhaomoohacjjaa", sum := "14d8f1b16b6f8d455752d5a912b028a295dbee29e4351cf92423900463e81d75", func := "remontoir/remontoirlaw01.DigitsNumbers", spec := "digitsNumbers", unfollowed := true, recurses := true, apart := false, narrowed := true }
def DigitsNumbersUptoSaid : Prop := digitsNumbersUptoRow.holds Try.pinned (OpenSpec.upto digitsNumbersSpec)

/-- 'remontoirlaw01.DigitsWords', WHERE WHAT IT READS IS OF BULK AT MOST 1048576: true; the input reads as it did. -/
def digitsWordsUptoRow : OpenClaim := { program := "ytmhaomoohacjjaa", sum := "14d8f1b16b6f8d455752d5a912b028a295dbee29e4351cf92423900463e81d75", func := "remontoir/remontoirlaw01.DigitsWords", spec := "digitsWords", unfollowed := true, recurses := true, apart := false, narrowed := true }
def DigitsWordsUptoSaid : Prop := digitsWordsUptoRow.holds Try.pinned (OpenSpec.upto digitsWordsSpec)

/-- 'remontoirlaw01.DigitsPieces', WHERE WHAT IT READS IS OF BULK AT MOST 1048576: true; the input reads as it did. -/
def digitsPiecesUptoRow : OpenClaim := { program := "ytmhaomoohacjjaa", sum := "14d8f1b16b6f8d455752d5a912b028a295dbee29e4351cf92423900463e81d75", func := "remontoir/remontoirlaw01.DigitsPieces", spec := "digitsPieces", unfollowed := true, recurses := true, apart := false, narrowed := true }
def DigitsPiecesUptoSaid : Prop := digitsPiecesUptoRow.holds Try.pinned (OpenSpec.upto digitsPiecesSpec)

end Rows
end Go.Proofs.Ytmhaomoohacjjaa
