/-
  No cell of these rows narrows 'for every input' (looked for: loops, veiled, ifaces, maps, wideKeys, modest, calm, conditions, laid).
  DERIVED. THE GIVEN ROWS OF THIS SEAT. 7 by the template 'for every input the law returns true; each argument reads behind the call as it read before'; 0 by the template 'total and deterministic' (their statements: YtgonnddgljgghaaTotals.lean).
  GIVEN WITH THE SEED: the statements are not yours to turn. If you find one false, say at which input.
  Laid BY PROGRAM, IN A SANDBOX (cutbox-rows.mjs): the forced cells as the released guide's own fill.sh prints them over the translation 6d26da1f9b379cc2… (all of the seat's roots in one cut). By AI agents, Wed Nov 11 2026. No macro, syntax, notation, axiom, sorry.
-/
import Derived.Test.YtgonnddgljgghaaChecked
import GoSem.Claim
import GoSem.ClaimJoined
import GoSem.ClaimMapViews
import Derived.JoinedTies
import Derived.KernelRfl
namespace Go.Proofs.Ytgonnddgljgghaa
/- THE CELL 'sum', in the pinned program and in every row, IS THE sha256 OF THE DUMP (.gsa) THAT YtgonnddgljgghaaProg.lean LOADS. Nothing in Lean hashes anything: it is a label: what it is worth is what the hold of that sum in a sandbox is worth. -/
noncomputable def Try.pinned : Pinned := { name := "ytgonnddgljgghaa", sum := "6d26da1f9b379cc2e931106f6f47838f9f17dbd851a7a907e12170f24403abf5", checked := Try.checked }
namespace Rows
def none {H : Type} : Left H := { results := [], args := [] }

/-- 'remontoirlaw28.FlagsPlays': WHATEVER THE INPUT: true; the input reads as it did. -/
def flagsPlaysSpec : ChangeSpec := { name := "flagsPlays", fn := fun _ => fun
  | [d] => { results := [.lit (.bool true)], args := [d] }
  | _ => none }
def flagsPlaysRow : OpenClaim := { program := "ytgonnddgljgghaa", sum := "6d26da1f9b379cc2e931106f6f47838f9f17dbd851a7a907e12170f24403abf5", func := "remontoir/remontoirlaw28.FlagsPlays", spec := "flagsPlays", apart := false }
def FlagsPlaysSaid : Prop := flagsPlaysRow.holds Try.pinned (OpenSpec.ofChange flagsPlaysSpec)

/-- ITS FALSE NEIGHBOUR: 'it returns false'. Refute it at one input. -/
def flagsPlaysWrong : ChangeSpec := { name := "flagsPlays", fn := fun _ => fun
  | [d] => { results := [.lit (.bool false)], args := [d] }
  | _ => none }
def FlagsPlaysWrongFalsely : Prop := flagsPlaysRow.holds Try.pinned (OpenSpec.ofChange flagsPlaysWrong)

/-- 'remontoirlaw01.DigitsNumbers': WHATEVER THE INPUT: true; the input reads as it did. -/
def digitsNumbersSpec : ChangeSpec := { name := "digitsNumbers", fn := fun _ => fun
  | [d1, d2] => { results := [.lit (.bool true)], args := [d1, d2] }
  | _ => none }
def digitsNumbersRow : OpenClaim := { program := "ytgonnddgljgghaa", sum := "6d26da1f9b379cc2e931106f6f47838f9f17dbd851a7a907e12170f24403abf5", func := "remontoir/remontoirlaw01.DigitsNumbers", spec := "digitsNumbers", unfollowed := true, recurses := true, apart := false }
def DigitsNumbersSaid : Prop := digitsNumbersRow.holds Try.pinned (OpenSpec.ofChange digitsNumbersSpec)

/-- ITS FALSE NEIGHBOUR: 'it returns false'. Refute it at one input. -/
def digitsNumbersWrong : ChangeSpec := { name := "digitsNumbers", fn := fun _ => fun
  | [d1, d2] => { results := [.lit (.bool false)], args := [d1, d2] }
  | _ => none }
def DigitsNumbersWrongFalsely : Prop := digitsNumbersRow.holds Try.pinned (OpenSpec.ofChange digitsNumbersWrong)

/-- 'remontoirlaw01.DigitsWords': WHATEVER THE INPUT: true; the input reads as it did. -/
def digitsWordsSpec : ChangeSpec := { name := "digitsWords", fn := fun _ => fun
  | [d1, d2] => { results := [.lit (.bool true)], args := [d1, d2] }
  | _ => none }
def digitsWordsRow : OpenClaim := { program := "ytgonnddgljgghaa", sum := "6d26da1f9b379cc2e931106f6f47838f9f17dbd851a7a907e12170f24403abf5", func := "remontoir/remontoirlaw01.DigitsWords", spec := "digitsWords", unfollowed := true, recurses := true, apart := false }
def DigitsWordsSaid : Prop := digitsWordsRow.holds Try.pinned (OpenSpec.ofChange digitsWordsSpec)

/-- ITS FALSE NEIGHBOUR: 'it returns false'. Refute it at one input. -/
def digitsWordsWrong : ChangeSpec := { name := "digitsWords", fn := fun _ => fun
  | [d1, d2] => { results := [.lit (.bool false)], args := [d1, d2] }
  | _ => none }
def DigitsWordsWrongFalsely : Prop := digitsWordsRow.holds Try.pinned (OpenSpec.ofChange digitsWordsWrong)

/-- 'remontoirlaw01.DigitsPieces': WHATEVER THE INPUT: true; the input reads as it did. -/
def digitsPiecesSpec : ChangeSpec := { name := "digitsPieces", fn := fun _ => fun
  | [d] => { results := [.lit (.bool true)], args := [d] }
  | _ => none }
def digitsPiecesRow : OpenClaim := { program := "ytgonnddgljgghaa", sum := "6d26da1f9b379cc2e931106f6f47838f9f17dbd851a7a907e12170f24403abf5", func := "remontoir/remontoirlaw01.DigitsPieces", spec := "digitsPieces", unfollowed := true, recurses := true, apart := false }
def DigitsPiecesSaid : Prop := digitsPiecesRow.holds Try.pinned (OpenSpec.ofChange digitsPiecesSpec)

/-- ITS FALSE NEIGHBOUR: 'it returns false'. Refute it at one input. -/
def digitsPiecesWrong : ChangeSpec := { name := "digitsPieces", fn := fun _ => fun
  | [d] => { results := [.lit (.bool false)], args := [d] }
  | _ => none }
def DigitsPiecesWrongFalsely : Prop := digitsPiecesRow.holds Try.pinned (OpenSpec.ofChange digitsPiecesWrong)

/-- 'remontoirlaw44.TallyCounts': WHATEVER THE INPUT: true; the input reads as it did. -/
def tallyCountsSpec : ChangeSpec := { name := "tallyCounts", fn := fun _ => fun
  | [d1, d2, d3] => { results := [.lit (.bool true)], args := [d1, d2, d3] }
  | _ => none }
def tallyCountsRow : OpenClaim := { program := "ytgonnddgljgghaa", sum := "6d26da1f9b379cc2e931106f6f47838f9f17dbd851a7a907e12170f24403abf5", func := "remontoir/remontoirlaw44.TallyCounts", spec := "tallyCounts", unfollowed := true, recurses := true, apart := false }
def TallyCountsSaid : Prop := tallyCountsRow.holds Try.pinned (OpenSpec.ofChange tallyCountsSpec)

/-- ITS FALSE NEIGHBOUR: 'it returns false'. Refute it at one input. -/
def tallyCountsWrong : ChangeSpec := { name := "tallyCounts", fn := fun _ => fun
  | [d1, d2, d3] => { results := [.lit (.bool false)], args := [d1, d2, d3] }
  | _ => none }
def TallyCountsWrongFalsely : Prop := tallyCountsRow.holds Try.pinned (OpenSpec.ofChange tallyCountsWrong)

/-- 'remontoirlaw06.FlashBits': WHATEVER THE INPUT: true; the input reads as it did. -/
def flashBitsSpec : ChangeSpec := { name := "flashBits", fn := fun _ => fun
  | [d1, d2] => { results := [.lit (.bool true)], args := [d1, d2] }
  | _ => none }
def flashBitsRow : OpenClaim := { program := "ytgonnddgljgghaa", sum := "6d26da1f9b379cc2e931106f6f47838f9f17dbd851a7a907e12170f24403abf5", func := "remontoir/remontoirlaw06.FlashBits", spec := "flashBits", apart := false }
def FlashBitsSaid : Prop := flashBitsRow.holds Try.pinned (OpenSpec.ofChange flashBitsSpec)

/-- ITS FALSE NEIGHBOUR: 'it returns false'. Refute it at one input. -/
def flashBitsWrong : ChangeSpec := { name := "flashBits", fn := fun _ => fun
  | [d1, d2] => { results := [.lit (.bool false)], args := [d1, d2] }
  | _ => none }
def FlashBitsWrongFalsely : Prop := flashBitsRow.holds Try.pinned (OpenSpec.ofChange flashBitsWrong)

/-- 'remontoirlaw06.FlashPlays': WHATEVER THE INPUT: true; the input reads as it did. -/
def flashPlaysSpec : ChangeSpec := { name := "flashPlays", fn := fun _ => fun
  | [d1, d2] => { results := [.lit (.bool true)], args := [d1, d2] }
  | _ => none }
def flashPlaysRow : OpenClaim := { program := "ytgonnddgljgghaa", sum := "6d26da1f9b379cc2e931106f6f47838f9f17dbd851a7a907e12170f24403abf5", func := "remontoir/remontoirlaw06.FlashPlays", spec := "flashPlays", apart := false }
def FlashPlaysSaid : Prop := flashPlaysRow.holds Try.pinned (OpenSpec.ofChange flashPlaysSpec)

/-- ITS FALSE NEIGHBOUR: 'it returns false'. Refute it at one input. -/
def flashPlaysWrong : ChangeSpec := { name := "flashPlays", fn := fun _ => fun
  | [d1, d2] => { results := [.lit (.bool false)], args := [d1, d2] }
  | _ => none }
def FlashPlaysWrongFalsely : Prop := flashPlaysRow.holds Try.pinned (OpenSpec.ofChange flashPlaysWrong)

/- THE SECOND FORM. 'bulk': how many values and letters a reading holds, each counted each time it is reached (what is shared counts as often as it is met; a slice's spare places count too). A statement '..UptoSaid' is the law's where the arguments, and the package variables that the reading takes, are together of bulk at most 1048576: NARROWER than '..Said'. Prove '..Said' where nothing that the law and all that it calls make is longer than what came in: it says more and counts as full. Else prove '..UptoSaid'. A law counts once. -/
mutual
def uptoBulk {H : Type} : DataW H → Nat
  | .lit (.string bytes) => bytes.length + 1
  | .lit _ => 1
  | .nil => 1
  | .ptr d => uptoBulk d + 1
  | .slice elems spare => uptoBulkAll elems + uptoBulkAll spare + 1
  | .agg parts => uptoBulkAll parts + 1
  | .iface _ d => uptoBulk d + 1
  | .map entries => uptoBulkEntries entries + 1
  | .held _ => 1
def uptoBulkAll {H : Type} : List (DataW H) → Nat
  | [] => 0
  | d :: r => uptoBulk d + uptoBulkAll r
def uptoBulkEntries {H : Type} : List (Lit × DataW H) → Nat
  | [] => 0
  | x :: r => uptoBulkEntry x + uptoBulkEntries r
def uptoBulkEntry {H : Type} : Lit × DataW H → Nat
  | (.string bytes, d) => bytes.length + uptoBulk d + 1
  | (_, d) => uptoBulk d + 1
 end
def uptoSmall : (H : Type) → List (DataW H) → Bool := fun _ ds => decide (uptoBulkAll ds ≤ 1048576)
def OpenSpec.upto (s : _root_.Go.ChangeSpec) : _root_.Go.OpenSpec := { _root_.Go.OpenSpec.ofChange s with cond := some uptoSmall }

/-- 'remontoirlaw28.FlagsPlays', WHERE WHAT IT READS IS OF BULK AT MOST 1048576: true; the input reads as it did. -/
def flagsPlaysUptoRow : OpenClaim := { program := "ytgonnddgljgghaa", sum := "6d26da1f9b379cc2e931106f6f47838f9f17dbd851a7a907e12170f24403abf5", func := "remontoir/remontoirlaw28.FlagsPlays", spec := "flagsPlays", apart := false, narrowed := true }
def FlagsPlaysUptoSaid : Prop := flagsPlaysUptoRow.holds Try.pinned (OpenSpec.upto flagsPlaysSpec)

/-- 'remontoirlaw01.DigitsNumbers', WHERE WHAT IT READS IS OF BULK AT MOST 1048576: true; the input reads as it did. -/
def digitsNumbersUptoRow : OpenClaim := { program := "ytgonnddgljgghaa", sum := "6d26da1f9b379cc2e931106f6f47838f9f17dbd851a7a907e12170f24403abf5", func := "remontoir/remontoirlaw01.DigitsNumbers", spec := "digitsNumbers", unfollowed := true, recurses := true, apart := false, narrowed := true }
def DigitsNumbersUptoSaid : Prop := digitsNumbersUptoRow.holds Try.pinned (OpenSpec.upto digitsNumbersSpec)

/-- 'remontoirlaw01.DigitsWords', WHERE WHAT IT READS IS OF BULK AT MOST 1048576: true; the input reads as it did. -/
def digitsWordsUptoRow : OpenClaim := { program := "ytgonnddgljgghaa", sum := "6d26da1f9b379cc2e931106f6f47838f9f17dbd851a7a907e12170f24403abf5", func := "remontoir/remontoirlaw01.DigitsWords", spec := "digitsWords", unfollowed := true, recurses := true, apart := false, narrowed := true }
def DigitsWordsUptoSaid : Prop := digitsWordsUptoRow.holds Try.pinned (OpenSpec.upto digitsWordsSpec)

/-- 'remontoirlaw01.DigitsPieces', WHERE WHAT IT READS IS OF BULK AT MOST 1048576: true; the input reads as it did. -/
def digitsPiecesUptoRow : OpenClaim := { program := "ytgonnddgljgghaa", sum := "6d26da1f9b379cc2e931106f6f47838f9f17dbd851a7a907e12170f24403abf5", func := "remontoir/remontoirlaw01.DigitsPieces", spec := "digitsPieces", unfollowed := true, recurses := true, apart := false, narrowed := true }
def DigitsPiecesUptoSaid : Prop := digitsPiecesUptoRow.holds Try.pinned (OpenSpec.upto digitsPiecesSpec)

/-- 'remontoirlaw44.TallyCounts', WHERE WHAT IT READS IS OF BULK AT MOST 1048576: true; the input reads as it did. -/
def tallyCountsUptoRow : OpenClaim := { program := "ytgonnddgljgghaa", sum := "6d26da1f9b379cc2e931106f6f47838f9f17dbd851a7a907e12170f24403abf5", func := "remontoir/remontoirlaw44.TallyCounts", spec := "tallyCounts", unfollowed := true, recurses := true, apart := false, narrowed := true }
def TallyCountsUptoSaid : Prop := tallyCountsUptoRow.holds Try.pinned (OpenSpec.upto tallyCountsSpec)

/-- 'remontoirlaw06.FlashBits', WHERE WHAT IT READS IS OF BULK AT MOST 1048576: true; the input reads as it did. -/
def flashBitsUptoRow : OpenClaim := { program := "ytgonnddgljgghaa", sum := "6d26da1f9b379cc2e931106f6f47838f9f17dbd851a7a907e12170f24403abf5", func := "remontoir/remontoirlaw06.FlashBits", spec := "flashBits", apart := false, narrowed := true }
def FlashBitsUptoSaid : Prop := flashBitsUptoRow.holds Try.pinned (OpenSpec.upto flashBitsSpec)

/-- 'remontoirlaw06.FlashPlays', WHERE WHAT IT READS IS OF BULK AT MOST 1048576: true; the input reads as it did. -/
def flashPlaysUptoRow : OpenClaim := { program := "ytgonnddgljgghaa", sum := "6d26da1f9b379cc2e931106f6f47838f9f17dbd851a7a907e12170f24403abf5", func := "remontoir/remontoirlaw06.FlashPlays", spec := "flashPlays", apart := false, narrowed := true }
def FlashPlaysUptoSaid : Prop := flashPlaysUptoRow.holds Try.pinned (OpenSpec.upto flashPlaysSpec)

end Rows
end Go.Proofs.Ytgonnddgljgghaa
