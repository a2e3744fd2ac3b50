/- Arrays of 16 numbers as arguments. No condition. -/
import Derived.Test.YtggjhjbcdnffnaaDoorTied
import Derived.Test.YtggjhjbcdnffnaaDoorEdgeW
namespace Go.Proofs.YtggjhjbcdnffnaaDoor
open Go.ChangeShapes Go.WideShapes Go.ChangeAt Go.RowKit Go.Deep

theorem okWide_arr {P : Program} {w : World} {r : Reach} {base : Nat} {t e : TypeId} {n : Nat} {v : Value} (ht : P.underlying t = some (.array n e)) (h : Value.okWide P w r base t v) : ∃ cs, v = .agg cs ∧ cs.size = P.cellsOf t := by
  simp only [Value.okWide, ht] at h
  obtain ⟨cs, h1, h2, _⟩ := h
  exact ⟨cs, h1, h2⟩
theorem rI_offs : RdI Tryd.prog 27 16 := rdI_array Tryd.underlying27 (by kernel_rfl) (by kernel_rfl) rI_int
theorem rd_offs {H : Type} {enc : TypeId × Value → H} {w : World} {base : Nat} {spare : Nat → Bool} {held : Bool} {n : Nat} {cs : List Value} {x : DataW H × List MemPlace} (h : DataW.trod enc Tryd.prog w base spare held n 27 cs = some x) : ∃ L : List Int, cs = iv L ∧ L.length = 16 := by
  obtain ⟨xs, rfl, hl⟩ := rI_offs.list h
  exact ⟨xs, rfl, hl⟩
end Go.Proofs.YtggjhjbcdnffnaaDoor
