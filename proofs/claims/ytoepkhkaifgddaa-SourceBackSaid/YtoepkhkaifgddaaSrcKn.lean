/- An image in hand, and what the functions of the sources' laws answer of it. No condition. -/
import Derived.Test.YtoepkhkaifgddaaSrcBackQ
import Derived.Test.YtoepkhkaifgddaaSrcW
import Derived.Test.YtoepkhkaifgddaaSrcPr
import Derived.Test.YtoepkhkaifgddaaImgRS
namespace Go.Proofs.Ytoepkhkaifgddaa
open Go.RowKit

/-- An image's cells, whatever they are. -/
structure Kn (w : World) (x : Img) (il : List Value) : Prop where
  len : il.length = 4
  one : ∀ y, y ∈ il → y.oneCell' = true
  ok : x.Ok
  at_ : ∃ v, il = imgCells v x ∧ ImgAt w v x
theorem Kn.keep0 {w w' : World} {x : Img} {il : List Value} (h : Kn w x il) (k : Keep [] w w') : Kn w' x il := by
  obtain ⟨v, e, ha⟩ := h.at_
  exact ⟨h.len, h.one, h.ok, v, e, ha.keep0 k⟩
theorem Kn.of {w : World} {v : ImgV} {x : Img} (h : ImgAt w v x) : Kn w x (imgCells v x) :=
  ⟨rfl, fun y hy => by simp [imgCells] at hy; rcases hy with rfl | rfl | rfl | rfl <;> rfl, h.ok, v, rfl, h⟩
theorem great_kn {w : World} {x : Img} {il : List Value} (h : Kn w x il) : Calls Try.prog 18 #[.agg il.toArray] w fun e w' => e = .returned (.bool (greatImg x)) ∧ Keep [] w w' := by
  obtain ⟨v, rfl, ha⟩ := h.at_
  exact great_any v x w ha
theorem right_kn {w : World} {x : Img} {il : List Value} (h : Kn w x il) : Calls Try.prog 19 #[.agg il.toArray] w fun e w' => e = .returned (.bool ((chkImg x).2 == 0)) ∧ Keep [] w w' := by
  obtain ⟨v, rfl, ha⟩ := h.at_
  exact right10_any v x w ha
theorem same_kn {w : World} {x y : Img} {il jl : List Value} (h : Kn w x il) (h' : Kn w y jl) : Calls Try.prog 12 #[.agg il.toArray, .agg jl.toArray] w fun e w' => e = .returned (.bool (decide (x = y))) ∧ Keep [] w w' := by
  obtain ⟨v, rfl, ha⟩ := h.at_
  obtain ⟨v', rfl, ha'⟩ := h'.at_
  exact rsame_any v v' x y w ha ha'
theorem parse_kn (s : ByteArray) (w : World) (hs : s.size ≤ 1000000) : Calls Try.prog 10 #[.string s] w fun e w' => ∃ il, e = .returned (.tuple #[.agg il.toArray, .int .i64 (srcP s).2.1, .int .i64 (srcP s).2.2]) ∧ Kn w' (srcP s).1 il ∧ Keep [] w w' := by
  refine (sparse_any12 s w hs).mono ?_
  rintro e w' ⟨vt, vm, ve, ms, rfl, hO, hk⟩
  obtain ⟨ta, tc, rfl⟩ := own_shape hO.tasks
  obtain ⟨ma, mc, rfl⟩ := own_shape hO.modes
  obtain ⟨ea, ec, rfl⟩ := own_shape hO.edges
  exact ⟨_, rfl, Kn.of hO.at_.2.2.2, hk⟩
/-- An image that may be: its text, parsed as it was. -/
theorem back_kn {w : World} {x : Img} {il : List Value} (h : Kn w x il) (hg : greatImg x = false) (hr : ((chkImg x).2 == 0) = true) :
    ∃ S : ByteArray, (∀ W, Keep [] w W → Hid (Calls Try.prog 20 #[.agg il.toArray] W fun e w' => e = .returned (.string S) ∧ Keep [] W w')) ∧
      ∀ W, Hid (Calls Try.prog 10 #[.string S] W fun e w' => ∃ jl, e = .returned (.tuple #[.agg jl.toArray, .int .i64 0, .int .i64 0]) ∧ Kn w' x jl ∧ Keep [] W w') := by
  obtain ⟨v, rfl, ha⟩ := h.at_
  have hR := right_of (by simpa using hr)
  have hb := src_back hR h.ok
  have hz := hR.size h.ok
  refine ⟨mkB (printT pairsT x), fun W hk => sprint_any v x W (ha.keep0 hk) hg, fun W => ?_⟩
  have := parse_kn (mkB (printT pairsT x)) W (by rw [mkB_size]; omega)
  rw [hb] at this
  exact this
end Go.Proofs.Ytoepkhkaifgddaa
