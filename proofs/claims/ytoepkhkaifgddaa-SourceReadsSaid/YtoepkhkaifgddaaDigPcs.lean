/- Rows of texts, and what the iterator of pieces is. -/
import Derived.Test.YtoepkhkaifgddaaDigIter
namespace Go.Proofs.Ytoepkhkaifgddaa
open Go.RowKit
attribute [local go_sem] Oper.semAt_some

theorem slice_str : SliceOf Try.prog 59 9 1 16 := ⟨Try.underlying59, by kernel_rfl, by decide⟩
abbrev strs (l : List ByteArray) : List Value := l.map Value.string
theorem number_snd (l : List ByteArray) : ∀ i, (number i l).map (·.2) = l := by
  induction l with
  | nil => intro i; rfl
  | cons a l ih => intro i; simp [number, ih (i + 1)]
theorem number_get (l : List ByteArray) : ∀ i k (x : NumStr), (number i l)[k]? = some x → x.1 = ((i + k : Nat) : Int) := by
  induction l with
  | nil => intro i k x h; simp [number] at h
  | cons a l ih =>
    intro i k x h
    cases k with
    | zero => simp [number] at h; rw [← h]; rfl
    | succ k =>
      have := ih (i + 1) k x (by simpa [number] using h)
      rw [this]; congr 1; omega
theorem number_at {l : List ByteArray} {q : List NumStr} {x : NumStr} (h : q ++ [x] <+: number 0 l) : x.1 = (q.length : Int) := by
  obtain ⟨r, hr⟩ := h
  have := number_get l 0 q.length x (by rw [← hr]; simp)
  simpa using this
def RetStrs (w : World) (xs : List ByteArray) (e : Ending) (w' : World) : Prop :=
  ∃ A c, e = .returned (.slice A xs.length c) ∧ w'.ownsRow w.heap.size 9 1 (.slice A xs.length c) xs.length (strs xs) ∧ Keep [] w w'

theorem pieces_any (s : ByteArray) (w : World) : Calls Try.prog 32 #[.string s] w fun e w' =>
    e = .returned (.func (.func 66) #[] #[.pointer (some ⟨w.heap.size, 0, none⟩)]) ∧ w.alloc (.cells #[.string s] 9) = w' := by
  go_enter Try.func32, Try.ntmps32
  go_wp2
  go_ret
  exact ⟨rfl, rfl⟩

end Go.Proofs.Ytoepkhkaifgddaa
