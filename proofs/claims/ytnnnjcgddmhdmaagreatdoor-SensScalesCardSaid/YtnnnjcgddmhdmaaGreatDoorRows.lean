/-
  NARROWER THAN 'FOR EVERY INPUT', by the rows' own cells (each row's printed sentence says how): SensCosts: laid · SensScales: laid · SensDeadlines: laid.
  DERIVED. THE GIVEN ROWS OF THIS SEAT. 3 by the template 'for every input the law returns true; each argument reads behind the call as it read before'; 0 by the template 'total and deterministic' (their statements: YtnnnjcgddmhdmaaGreatDoorTotals.lean).
  GIVEN WITH THE SEED: the statements are not yours to turn. If you find one false, say at which input.
  Laid BY PROGRAM, IN A SANDBOX (cutbox-rows.mjs): the forced cells as the released guide's own fill.sh prints them over the translation c284dd632cc546e1… (all of the seat's roots in one cut). By AI agents, Wed Nov 11 2026. No macro, syntax, notation, axiom, sorry.
-/
import Derived.Test.YtnnnjcgddmhdmaaGreatDoorChecked
import GoSem.Claim
import GoSem.ClaimJoined
import GoSem.ClaimMapViews
import Derived.JoinedTies
import Derived.KernelRfl
namespace Go.Proofs.YtnnnjcgddmhdmaaGreatDoor
/- THE CELL 'sum', in the pinned program and in every row, IS THE sha256 OF THE DUMP (.gsa) THAT YtnnnjcgddmhdmaaGreatDoorProg.lean LOADS. Nothing in Lean hashes anything: it is a label: what it is worth is what the hold of that sum in a sandbox is worth. -/
noncomputable def Tryz.pinned : Pinned := { name := "ytnnnjcgddmhdmaagreatdoor", sum := "c284dd632cc546e112f450d739de627ed70b04b8e26d449d0e569f4ee4897231", checked := Tryz.checked }
namespace Rows
def none {H : Type} : Left H := { results := [], args := [] }

/- WHAT THE LISTED PACKAGE-LEVEL VARIABLES READ AS WHEN THE CALL BEGINS. Each datum BY PROGRAM (the guide's laid-datum.mjs) off the statement by which the dump's own 'gosem.cut.vars' lays the variable. In a bare row this is a premise. The card (YtnnnjcgddmhdmaaGreatDoorCards.lean) ties it to the program's text. -/
def laid_math_bits_deBruijn32tab {H : Type} : DataW H := .agg [.lit (.int .u8 0), .lit (.int .u8 1), .lit (.int .u8 28), .lit (.int .u8 2), .lit (.int .u8 29), .lit (.int .u8 14), .lit (.int .u8 24), .lit (.int .u8 3), .lit (.int .u8 30), .lit (.int .u8 22), .lit (.int .u8 20), .lit (.int .u8 15), .lit (.int .u8 25), .lit (.int .u8 17), .lit (.int .u8 4), .lit (.int .u8 8), .lit (.int .u8 31), .lit (.int .u8 27), .lit (.int .u8 13), .lit (.int .u8 23), .lit (.int .u8 21), .lit (.int .u8 19), .lit (.int .u8 16), .lit (.int .u8 7), .lit (.int .u8 26), .lit (.int .u8 12), .lit (.int .u8 18), .lit (.int .u8 6), .lit (.int .u8 11), .lit (.int .u8 5), .lit (.int .u8 10), .lit (.int .u8 9)]

/-- 'remontoirlaw39.SensCosts': WHATEVER THE INPUT: true; the input reads as it did. -/
def sensCostsSpec : ChangeSpec := { name := "sensCosts", fn := fun _ => fun
  | [d1, d2] => { results := [.lit (.bool true)], args := [d1, d2] }
  | _ => none }
def sensCostsRow : OpenClaim := { program := "ytnnnjcgddmhdmaagreatdoor", sum := "c284dd632cc546e112f450d739de627ed70b04b8e26d449d0e569f4ee4897231", func := "remontoir/remontoirlaw39.SensCosts", spec := "sensCosts", unfollowed := true, recurses := true, named := ["math/bits.deBruijn32tab"], apart := false, laid := [("math/bits.deBruijn32tab", laid_math_bits_deBruijn32tab)] }
def SensCostsSaid : Prop := sensCostsRow.holds Tryz.pinned (OpenSpec.ofChange sensCostsSpec)

/-- ITS FALSE NEIGHBOUR: 'it returns false'. Refute it at one input. -/
def sensCostsWrong : ChangeSpec := { name := "sensCosts", fn := fun _ => fun
  | [d1, d2] => { results := [.lit (.bool false)], args := [d1, d2] }
  | _ => none }
def SensCostsWrongFalsely : Prop := sensCostsRow.holds Tryz.pinned (OpenSpec.ofChange sensCostsWrong)

/-- 'remontoirlaw39.SensScales': WHATEVER THE INPUT: true; the input reads as it did. -/
def sensScalesSpec : ChangeSpec := { name := "sensScales", fn := fun _ => fun
  | [d1, d2] => { results := [.lit (.bool true)], args := [d1, d2] }
  | _ => none }
def sensScalesRow : OpenClaim := { program := "ytnnnjcgddmhdmaagreatdoor", sum := "c284dd632cc546e112f450d739de627ed70b04b8e26d449d0e569f4ee4897231", func := "remontoir/remontoirlaw39.SensScales", spec := "sensScales", unfollowed := true, recurses := true, named := ["math/bits.deBruijn32tab"], apart := false, laid := [("math/bits.deBruijn32tab", laid_math_bits_deBruijn32tab)] }
def SensScalesSaid : Prop := sensScalesRow.holds Tryz.pinned (OpenSpec.ofChange sensScalesSpec)

/-- ITS FALSE NEIGHBOUR: 'it returns false'. Refute it at one input. -/
def sensScalesWrong : ChangeSpec := { name := "sensScales", fn := fun _ => fun
  | [d1, d2] => { results := [.lit (.bool false)], args := [d1, d2] }
  | _ => none }
def SensScalesWrongFalsely : Prop := sensScalesRow.holds Tryz.pinned (OpenSpec.ofChange sensScalesWrong)

/-- 'remontoirlaw39.SensDeadlines': WHATEVER THE INPUT: true; the input reads as it did. -/
def sensDeadlinesSpec : ChangeSpec := { name := "sensDeadlines", fn := fun _ => fun
  | [d1, d2] => { results := [.lit (.bool true)], args := [d1, d2] }
  | _ => none }
def sensDeadlinesRow : OpenClaim := { program := "ytnnnjcgddmhdmaagreatdoor", sum := "c284dd632cc546e112f450d739de627ed70b04b8e26d449d0e569f4ee4897231", func := "remontoir/remontoirlaw39.SensDeadlines", spec := "sensDeadlines", unfollowed := true, recurses := true, named := ["math/bits.deBruijn32tab"], apart := false, laid := [("math/bits.deBruijn32tab", laid_math_bits_deBruijn32tab)] }
def SensDeadlinesSaid : Prop := sensDeadlinesRow.holds Tryz.pinned (OpenSpec.ofChange sensDeadlinesSpec)

/-- ITS FALSE NEIGHBOUR: 'it returns false'. Refute it at one input. -/
def sensDeadlinesWrong : ChangeSpec := { name := "sensDeadlines", fn := fun _ => fun
  | [d1, d2] => { results := [.lit (.bool false)], args := [d1, d2] }
  | _ => none }
def SensDeadlinesWrongFalsely : Prop := sensDeadlinesRow.holds Tryz.pinned (OpenSpec.ofChange sensDeadlinesWrong)

/- THE SECOND FORM. 'bulk': how many values and letters a reading holds, each counted each time it is reached (what is shared counts as often as it is met; a slice's spare places count too). A statement '..UptoSaid' is the law's where the arguments, and the package variables that the reading takes, are together of bulk at most 1048576: NARROWER than '..Said'. Prove '..Said' where nothing that the law and all that it calls make is longer than what came in: it says more and counts as full. Else prove '..UptoSaid'. A law counts once. -/
mutual
def uptoBulk {H : Type} : DataW H → Nat
  | .lit (.string bytes) => bytes.length + 1
  | .lit _ => 1
  | .nil => 1
  | .ptr d => uptoBulk d + 1
  | .slice elems spare => uptoBulkAll elems + uptoBulkAll spare + 1
  | .agg parts => uptoBulkAll parts + 1
  | .iface _ d => uptoBulk d + 1
  | .map entries => uptoBulkEntries entries + 1
  | .held _ => 1
def uptoBulkAll {H : Type} : List (DataW H) → Nat
  | [] => 0
  | d :: r => uptoBulk d + uptoBulkAll r
def uptoBulkEntries {H : Type} : List (Lit × DataW H) → Nat
  | [] => 0
  | x :: r => uptoBulkEntry x + uptoBulkEntries r
def uptoBulkEntry {H : Type} : Lit × DataW H → Nat
  | (.string bytes, d) => bytes.length + uptoBulk d + 1
  | (_, d) => uptoBulk d + 1
 end
def uptoSmall : (H : Type) → List (DataW H) → Bool := fun _ ds => decide (uptoBulkAll ds ≤ 1048576)
def OpenSpec.upto (s : _root_.Go.ChangeSpec) : _root_.Go.OpenSpec := { _root_.Go.OpenSpec.ofChange s with cond := some uptoSmall }

/-- 'remontoirlaw39.SensCosts', WHERE WHAT IT READS IS OF BULK AT MOST 1048576: true; the input reads as it did. -/
def sensCostsUptoRow : OpenClaim := { program := "ytnnnjcgddmhdmaagreatdoor", sum := "c284dd632cc546e112f450d739de627ed70b04b8e26d449d0e569f4ee4897231", func := "remontoir/remontoirlaw39.SensCosts", spec := "sensCosts", unfollowed := true, recurses := true, named := ["math/bits.deBruijn32tab"], apart := false, laid := [("math/bits.deBruijn32tab", laid_math_bits_deBruijn32tab)], narrowed := true }
def SensCostsUptoSaid : Prop := sensCostsUptoRow.holds Tryz.pinned (OpenSpec.upto sensCostsSpec)

/-- 'remontoirlaw39.SensScales', WHERE WHAT IT READS IS OF BULK AT MOST 1048576: true; the input reads as it did. -/
def sensScalesUptoRow : OpenClaim := { program := "ytnnnjcgddmhdmaagreatdoor", sum := "c284dd632cc546e112f450d739de627ed70b04b8e26d449d0e569f4ee4897231", func := "remontoir/remontoirlaw39.SensScales", spec := "sensScales", unfollowed := true, recurses := true, named := ["math/bits.deBruijn32tab"], apart := false, laid := [("math/bits.deBruijn32tab", laid_math_bits_deBruijn32tab)], narrowed := true }
def SensScalesUptoSaid : Prop := sensScalesUptoRow.holds Tryz.pinned (OpenSpec.upto sensScalesSpec)

/-- 'remontoirlaw39.SensDeadlines', WHERE WHAT IT READS IS OF BULK AT MOST 1048576: true; the input reads as it did. -/
def sensDeadlinesUptoRow : OpenClaim := { program := "ytnnnjcgddmhdmaagreatdoor", sum := "c284dd632cc546e112f450d739de627ed70b04b8e26d449d0e569f4ee4897231", func := "remontoir/remontoirlaw39.SensDeadlines", spec := "sensDeadlines", unfollowed := true, recurses := true, named := ["math/bits.deBruijn32tab"], apart := false, laid := [("math/bits.deBruijn32tab", laid_math_bits_deBruijn32tab)], narrowed := true }
def SensDeadlinesUptoSaid : Prop := sensDeadlinesUptoRow.holds Tryz.pinned (OpenSpec.upto sensDeadlinesSpec)

end Rows
end Go.Proofs.YtnnnjcgddmhdmaaGreatDoor
