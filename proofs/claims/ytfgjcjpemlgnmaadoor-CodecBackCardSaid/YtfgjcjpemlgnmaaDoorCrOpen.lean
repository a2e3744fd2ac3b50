/- A row of words as an argument. No condition. -/
import Derived.Test.YtfgjcjpemlgnmaaDoorTied
import Derived.Test.YtfgjcjpemlgnmaaDoorCwLaw
namespace Go.Proofs.YtfgjcjpemlgnmaaDoor
open Go.ChangeShapes Go.WideShapes Go.ChangeAt Go.RowKit Go.Deep

section
variable {H : Type} {enc : TypeId × Value → H} {w : World} {base : Nat} {spare : Nat → Bool} {held : Bool}
theorem rd_words11 {n : Nat} {cs : List Value} {x : DataW H × List MemPlace} (h : DataW.trod enc Tryd.prog w base spare held n 28 cs = some x) :
    ∃ (A : Option Addr) (c : Nat) (l : List Int), cs = [.slice A l.length c] ∧ Reads w 1 A l.length (uw l) ∧ ∀ y ∈ l, 0 ≤ y ∧ y < 4294967296 := by
  obtain ⟨A4, n4, q4, us, e4, b1, b2, b3, b4, b5⟩ := rd_plain (cells := fun (k : Int) => [Value.int .u32 k]) (ok := fun k => 0 ≤ k ∧ k < 4294967296) (size := 1) Tryd.underlying28 (by kernel_rfl) (by decide)
      (fun n cs x h => by obtain ⟨k, rfl, _, hw⟩ := DataW.trod_int Tryd.underlying44 h; obtain ⟨s, rfl, hs⟩ := wf_bounds_u32 hw; exact ⟨_, rfl, by omega, by omega⟩) h
  subst b3
  refine ⟨A4, q4, us, e4, ?_, b5⟩
  have : uw us = us.flatMap (fun (k : Int) => [Value.int .u32 k]) := by
    unfold uw
    exact List.map_eq_flatMap
  rw [this]
  exact b4
end
end Go.Proofs.YtfgjcjpemlgnmaaDoor
