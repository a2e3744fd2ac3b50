/- Lines, numbered from 1 on. -/
import Derived.Test.YtoepkhkaifgddaaDigLines
import Derived.Test.YtoepkhkaifgddaaDigPcs
namespace Go.Proofs.Ytoepkhkaifgddaa
open Go.RowKit
attribute [local go_sem] Oper.semAt_some

theorem linesT_len (s : ByteArray) : (linesT s).length ≤ s.size + 1 := by
  have key : ∀ n t, (linesS n t).length ≤ n := by
    intro n
    induction n with
    | zero => intro t; simp [linesS]
    | succ n ih =>
      intro t
      rw [linesS]
      split
      · simp
      · have := ih (restNl t)
        simp; omega
  have := key s.size s
  unfold linesT
  omega
theorem number_at1 {l : List ByteArray} {q : List NumStr} {x : NumStr} (h : q ++ [x] <+: number 1 l) : x.1 = (q.length : Int) + 1 := by
  obtain ⟨r, hr⟩ := h
  have := number_get l 1 q.length x (by rw [← hr]; simp)
  rw [this]
  omega

end Go.Proofs.Ytoepkhkaifgddaa
