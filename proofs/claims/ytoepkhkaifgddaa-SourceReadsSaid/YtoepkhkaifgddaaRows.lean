/-
  No cell of these rows narrows 'for every input' (looked for: loops, veiled, ifaces, maps, wideKeys, modest, calm, conditions, laid).
  DERIVED. THE GIVEN ROWS OF THIS SEAT. 7 by the template 'for every input the law returns true; each argument reads behind the call as it read before'; 0 by the template 'total and deterministic' (their statements: YtoepkhkaifgddaaTotals.lean).
  GIVEN WITH THE SEED: the statements are not yours to turn. If you find one false, say at which input.
  Laid BY PROGRAM, IN A SANDBOX (cutbox-rows.mjs): the forced cells as the released guide's own fill.sh prints them over the translation cd9e1ee79cfeaf17… (all of the seat's roots in one cut). By AI agents, Wed Nov 11 2026. No macro, syntax, notation, axiom, sorry.
-/
import Derived.Test.YtoepkhkaifgddaaChecked
import GoSem.Claim
import GoSem.ClaimJoined
import GoSem.ClaimMapViews
import Derived.JoinedTies
import Derived.KernelRfl
namespace Go.Proofs.Ytoepkhkaifgddaa
/- THE CELL 'sum', in the pinned program and in every row, IS THE sha256 OF THE DUMP (.gsa) THAT YtoepkhkaifgddaaProg.lean LOADS. Nothing in Lean hashes anything: it is a label: what it is worth is what the hold of that sum in a sandbox is worth. -/
noncomputable def Try.pinned : Pinned := { name := "ytoepkhkaifgddaa", sum := "cd9e1ee79cfeaf17567d395f84096c6f79217ccc909a5ad0e12071ba607dde99", checked := Try.checked }
namespace Rows
def none {H : Type} : Left H := { results := [], args := [] }

/-- 'remontoirlaw12.SourceReads': WHATEVER THE INPUT: true; the input reads as it did. -/
def sourceReadsSpec : ChangeSpec := { name := "sourceReads", fn := fun _ => fun
  | [d] => { results := [.lit (.bool true)], args := [d] }
  | _ => none }
def sourceReadsRow : OpenClaim := { program := "ytoepkhkaifgddaa", sum := "cd9e1ee79cfeaf17567d395f84096c6f79217ccc909a5ad0e12071ba607dde99", func := "remontoir/remontoirlaw12.SourceReads", spec := "sourceReads", inPlace := ["internal/bytealg.IndexByteString"], unfollowed := true, recurses := true, apart := false }
def SourceReadsSaid : Prop := sourceReadsRow.holds Try.pinned (OpenSpec.ofChange sourceReadsSpec)

/-- ITS FALSE NEIGHBOUR: 'it returns false'. Refute it at one input. -/
def sourceReadsWrong : ChangeSpec := { name := "sourceReads", fn := fun _ => fun
  | [d] => { results := [.lit (.bool false)], args := [d] }
  | _ => none }
def SourceReadsWrongFalsely : Prop := sourceReadsRow.holds Try.pinned (OpenSpec.ofChange sourceReadsWrong)

/-- 'remontoirlaw34.ScriptSame': WHATEVER THE INPUT: true; the input reads as it did. -/
def scriptSameSpec : ChangeSpec := { name := "scriptSame", fn := fun _ => fun
  | [d1, d2] => { results := [.lit (.bool true)], args := [d1, d2] }
  | _ => none }
def scriptSameRow : OpenClaim := { program := "ytoepkhkaifgddaa", sum := "cd9e1ee79cfeaf17567d395f84096c6f79217ccc909a5ad0e12071ba607dde99", func := "remontoir/remontoirlaw34.ScriptSame", spec := "scriptSame", inPlace := ["internal/bytealg.IndexByteString"], unfollowed := true, recurses := true, apart := false }
def ScriptSameSaid : Prop := scriptSameRow.holds Try.pinned (OpenSpec.ofChange scriptSameSpec)

/-- ITS FALSE NEIGHBOUR: 'it returns false'. Refute it at one input. -/
def scriptSameWrong : ChangeSpec := { name := "scriptSame", fn := fun _ => fun
  | [d1, d2] => { results := [.lit (.bool false)], args := [d1, d2] }
  | _ => none }
def ScriptSameWrongFalsely : Prop := scriptSameRow.holds Try.pinned (OpenSpec.ofChange scriptSameWrong)

/-- 'remontoirlaw12.SourceWrites': WHATEVER THE INPUT: true; the input reads as it did. -/
def sourceWritesSpec : ChangeSpec := { name := "sourceWrites", fn := fun _ => fun
  | [d] => { results := [.lit (.bool true)], args := [d] }
  | _ => none }
def sourceWritesRow : OpenClaim := { program := "ytoepkhkaifgddaa", sum := "cd9e1ee79cfeaf17567d395f84096c6f79217ccc909a5ad0e12071ba607dde99", func := "remontoir/remontoirlaw12.SourceWrites", spec := "sourceWrites", inPlace := ["internal/bytealg.IndexByteString"], unfollowed := true, recurses := true, apart := false }
def SourceWritesSaid : Prop := sourceWritesRow.holds Try.pinned (OpenSpec.ofChange sourceWritesSpec)

/-- ITS FALSE NEIGHBOUR: 'it returns false'. Refute it at one input. -/
def sourceWritesWrong : ChangeSpec := { name := "sourceWrites", fn := fun _ => fun
  | [d] => { results := [.lit (.bool false)], args := [d] }
  | _ => none }
def SourceWritesWrongFalsely : Prop := sourceWritesRow.holds Try.pinned (OpenSpec.ofChange sourceWritesWrong)

/-- 'remontoirlaw12.SourceBack': WHATEVER THE INPUT: true; the input reads as it did. -/
def sourceBackSpec : ChangeSpec := { name := "sourceBack", fn := fun _ => fun
  | [d1, d2] => { results := [.lit (.bool true)], args := [d1, d2] }
  | _ => none }
def sourceBackRow : OpenClaim := { program := "ytoepkhkaifgddaa", sum := "cd9e1ee79cfeaf17567d395f84096c6f79217ccc909a5ad0e12071ba607dde99", func := "remontoir/remontoirlaw12.SourceBack", spec := "sourceBack", inPlace := ["internal/bytealg.IndexByteString"], unfollowed := true, recurses := true, apart := false }
def SourceBackSaid : Prop := sourceBackRow.holds Try.pinned (OpenSpec.ofChange sourceBackSpec)

/-- ITS FALSE NEIGHBOUR: 'it returns false'. Refute it at one input. -/
def sourceBackWrong : ChangeSpec := { name := "sourceBack", fn := fun _ => fun
  | [d1, d2] => { results := [.lit (.bool false)], args := [d1, d2] }
  | _ => none }
def SourceBackWrongFalsely : Prop := sourceBackRow.holds Try.pinned (OpenSpec.ofChange sourceBackWrong)

/-- 'remontoirlaw34.ScriptLines': WHATEVER THE INPUT: true; the input reads as it did. -/
def scriptLinesSpec : ChangeSpec := { name := "scriptLines", fn := fun _ => fun
  | [d1, d2] => { results := [.lit (.bool true)], args := [d1, d2] }
  | _ => none }
def scriptLinesRow : OpenClaim := { program := "ytoepkhkaifgddaa", sum := "cd9e1ee79cfeaf17567d395f84096c6f79217ccc909a5ad0e12071ba607dde99", func := "remontoir/remontoirlaw34.ScriptLines", spec := "scriptLines", inPlace := ["internal/bytealg.IndexByteString"], unfollowed := true, recurses := true, apart := false }
def ScriptLinesSaid : Prop := scriptLinesRow.holds Try.pinned (OpenSpec.ofChange scriptLinesSpec)

/-- ITS FALSE NEIGHBOUR: 'it returns false'. Refute it at one input. -/
def scriptLinesWrong : ChangeSpec := { name := "scriptLines", fn := fun _ => fun
  | [d1, d2] => { results := [.lit (.bool false)], args := [d1, d2] }
  | _ => none }
def ScriptLinesWrongFalsely : Prop := scriptLinesRow.holds Try.pinned (OpenSpec.ofChange scriptLinesWrong)

/-- 'remontoirlaw34.ScriptTexts': WHATEVER THE INPUT: true; the input reads as it did. -/
def scriptTextsSpec : ChangeSpec := { name := "scriptTexts", fn := fun _ => fun
  | [d1, d2] => { results := [.lit (.bool true)], args := [d1, d2] }
  | _ => none }
def scriptTextsRow : OpenClaim := { program := "ytoepkhkaifgddaa", sum := "cd9e1ee79cfeaf17567d395f84096c6f79217ccc909a5ad0e12071ba607dde99", func := "remontoir/remontoirlaw34.ScriptTexts", spec := "scriptTexts", inPlace := ["internal/bytealg.IndexByteString", "internal/abi.NoEscape"], unfollowed := true, recurses := true, apart := false }
def ScriptTextsSaid : Prop := scriptTextsRow.holds Try.pinned (OpenSpec.ofChange scriptTextsSpec)

/-- ITS FALSE NEIGHBOUR: 'it returns false'. Refute it at one input. -/
def scriptTextsWrong : ChangeSpec := { name := "scriptTexts", fn := fun _ => fun
  | [d1, d2] => { results := [.lit (.bool false)], args := [d1, d2] }
  | _ => none }
def ScriptTextsWrongFalsely : Prop := scriptTextsRow.holds Try.pinned (OpenSpec.ofChange scriptTextsWrong)

/-- 'remontoirlaw34.ScriptBack': WHATEVER THE INPUT: true; the input reads as it did. -/
def scriptBackSpec : ChangeSpec := { name := "scriptBack", fn := fun _ => fun
  | [d1, d2] => { results := [.lit (.bool true)], args := [d1, d2] }
  | _ => none }
def scriptBackRow : OpenClaim := { program := "ytoepkhkaifgddaa", sum := "cd9e1ee79cfeaf17567d395f84096c6f79217ccc909a5ad0e12071ba607dde99", func := "remontoir/remontoirlaw34.ScriptBack", spec := "scriptBack", inPlace := ["internal/bytealg.IndexByteString", "internal/abi.NoEscape"], unfollowed := true, recurses := true, apart := false }
def ScriptBackSaid : Prop := scriptBackRow.holds Try.pinned (OpenSpec.ofChange scriptBackSpec)

/-- ITS FALSE NEIGHBOUR: 'it returns false'. Refute it at one input. -/
def scriptBackWrong : ChangeSpec := { name := "scriptBack", fn := fun _ => fun
  | [d1, d2] => { results := [.lit (.bool false)], args := [d1, d2] }
  | _ => none }
def ScriptBackWrongFalsely : Prop := scriptBackRow.holds Try.pinned (OpenSpec.ofChange scriptBackWrong)

/- THE SECOND FORM. 'bulk': how many values and letters a reading holds, each counted each time it is reached (what is shared counts as often as it is met; a slice's spare places count too). A statement '..UptoSaid' is the law's where the arguments, and the package variables that the reading takes, are together of bulk at most 1048576: NARROWER than '..Said'. Prove '..Said' where nothing that the law and all that it calls make is longer than what came in: it says more and counts as full. Else prove '..UptoSaid'. A law counts once. -/
mutual
def uptoBulk {H : Type} : DataW H → Nat
  | .lit (.string bytes) => bytes.length + 1
  | .lit _ => 1
  | .nil => 1
  | .ptr d => uptoBulk d + 1
  | .slice elems spare => uptoBulkAll elems + uptoBulkAll spare + 1
  | .agg parts => uptoBulkAll parts + 1
  | .iface _ d => uptoBulk d + 1
  | .map entries => uptoBulkEntries entries + 1
  | .held _ => 1
def uptoBulkAll {H : Type} : List (DataW H) → Nat
  | [] => 0
  | d :: r => uptoBulk d + uptoBulkAll r
def uptoBulkEntries {H : Type} : List (Lit × DataW H) → Nat
  | [] => 0
  | x :: r => uptoBulkEntry x + uptoBulkEntries r
def uptoBulkEntry {H : Type} : Lit × DataW H → Nat
  | (.string bytes, d) => bytes.length + uptoBulk d + 1
  | (_, d) => uptoBulk d + 1
 end
def uptoSmall : (H : Type) → List (DataW H) → Bool := fun _ ds => decide (uptoBulkAll ds ≤ 1048576)
def OpenSpec.upto (s : _root_.Go.ChangeSpec) : _root_.Go.OpenSpec := { _root_.Go.OpenSpec.ofChange s with cond := some uptoSmall }

/-- 'remontoirlaw12.SourceReads', WHERE WHAT IT READS IS OF BULK AT MOST 1048576: true; the input reads as it did. -/
def sourceReadsUptoRow : OpenClaim := { program := "ytoepkhkaifgddaa", sum := "cd9e1ee79cfeaf17567d395f84096c6f79217ccc909a5ad0e12071ba607dde99", func := "remontoir/remontoirlaw12.SourceReads", spec := "sourceReads", inPlace := ["internal/bytealg.IndexByteString"], unfollowed := true, recurses := true, apart := false, narrowed := true }
def SourceReadsUptoSaid : Prop := sourceReadsUptoRow.holds Try.pinned (OpenSpec.upto sourceReadsSpec)

/-- 'remontoirlaw34.ScriptSame', WHERE WHAT IT READS IS OF BULK AT MOST 1048576: true; the input reads as it did. -/
def scriptSameUptoRow : OpenClaim := { program := "ytoepkhkaifgddaa", sum := "cd9e1ee79cfeaf17567d395f84096c6f79217ccc909a5ad0e12071ba607dde99", func := "remontoir/remontoirlaw34.ScriptSame", spec := "scriptSame", inPlace := ["internal/bytealg.IndexByteString"], unfollowed := true, recurses := true, apart := false, narrowed := true }
def ScriptSameUptoSaid : Prop := scriptSameUptoRow.holds Try.pinned (OpenSpec.upto scriptSameSpec)

/-- 'remontoirlaw12.SourceWrites', WHERE WHAT IT READS IS OF BULK AT MOST 1048576: true; the input reads as it did. -/
def sourceWritesUptoRow : OpenClaim := { program := "ytoepkhkaifgddaa", sum := "cd9e1ee79cfeaf17567d395f84096c6f79217ccc909a5ad0e12071ba607dde99", func := "remontoir/remontoirlaw12.SourceWrites", spec := "sourceWrites", inPlace := ["internal/bytealg.IndexByteString"], unfollowed := true, recurses := true, apart := false, narrowed := true }
def SourceWritesUptoSaid : Prop := sourceWritesUptoRow.holds Try.pinned (OpenSpec.upto sourceWritesSpec)

/-- 'remontoirlaw12.SourceBack', WHERE WHAT IT READS IS OF BULK AT MOST 1048576: true; the input reads as it did. -/
def sourceBackUptoRow : OpenClaim := { program := "ytoepkhkaifgddaa", sum := "cd9e1ee79cfeaf17567d395f84096c6f79217ccc909a5ad0e12071ba607dde99", func := "remontoir/remontoirlaw12.SourceBack", spec := "sourceBack", inPlace := ["internal/bytealg.IndexByteString"], unfollowed := true, recurses := true, apart := false, narrowed := true }
def SourceBackUptoSaid : Prop := sourceBackUptoRow.holds Try.pinned (OpenSpec.upto sourceBackSpec)

/-- 'remontoirlaw34.ScriptLines', WHERE WHAT IT READS IS OF BULK AT MOST 1048576: true; the input reads as it did. -/
def scriptLinesUptoRow : OpenClaim := { program := "ytoepkhkaifgddaa", sum := "cd9e1ee79cfeaf17567d395f84096c6f79217ccc909a5ad0e12071ba607dde99", func := "remontoir/remontoirlaw34.ScriptLines", spec := "scriptLines", inPlace := ["internal/bytealg.IndexByteString"], unfollowed := true, recurses := true, apart := false, narrowed := true }
def ScriptLinesUptoSaid : Prop := scriptLinesUptoRow.holds Try.pinned (OpenSpec.upto scriptLinesSpec)

/-- 'remontoirlaw34.ScriptTexts', WHERE WHAT IT READS IS OF BULK AT MOST 1048576: true; the input reads as it did. -/
def scriptTextsUptoRow : OpenClaim := { program := "ytoepkhkaifgddaa", sum := "cd9e1ee79cfeaf17567d395f84096c6f79217ccc909a5ad0e12071ba607dde99", func := "remontoir/remontoirlaw34.ScriptTexts", spec := "scriptTexts", inPlace := ["internal/bytealg.IndexByteString", "internal/abi.NoEscape"], unfollowed := true, recurses := true, apart := false, narrowed := true }
def ScriptTextsUptoSaid : Prop := scriptTextsUptoRow.holds Try.pinned (OpenSpec.upto scriptTextsSpec)

/-- 'remontoirlaw34.ScriptBack', WHERE WHAT IT READS IS OF BULK AT MOST 1048576: true; the input reads as it did. -/
def scriptBackUptoRow : OpenClaim := { program := "ytoepkhkaifgddaa", sum := "cd9e1ee79cfeaf17567d395f84096c6f79217ccc909a5ad0e12071ba607dde99", func := "remontoir/remontoirlaw34.ScriptBack", spec := "scriptBack", inPlace := ["internal/bytealg.IndexByteString", "internal/abi.NoEscape"], unfollowed := true, recurses := true, apart := false, narrowed := true }
def ScriptBackUptoSaid : Prop := scriptBackUptoRow.holds Try.pinned (OpenSpec.upto scriptBackSpec)

end Rows
end Go.Proofs.Ytoepkhkaifgddaa
