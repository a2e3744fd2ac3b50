/- A mode's tasks, by the document; walked. No condition. -/
import Derived.Test.YtfgjcjpemlgnmaaDoorCrModeD
namespace Go.Proofs.YtfgjcjpemlgnmaaDoor
open Go.RowKit

set_option maxRecDepth 100000 in
set_option maxHeartbeats 1000000 in
theorem tasks_any11 (v : ImgV) (x : Img) (m : Int) (w : World) (h : ImgAt w v x) : Calls Tryd.prog 42 #[.agg (imgCells v x).toArray, .int .i64 m] w fun e w' => e = .returned (.int .u32 (setOf10 x m : Int)) ∧ Keep [] w w' := by
  have hl := h.lm
  unfold maxLen at hl
  have hb := img_box w v x
  have K0 := (Keep.refl [] w).alloc (.cells (imgCells v x).toArray 26)
  have c2 := img_c2 hb
  clear hb
  have hc : m < 0 ∨ (0 ≤ m ∧ (x.modes.length : Int) ≤ m) ∨ (0 ≤ m ∧ m < x.modes.length) := by omega
  rcases hc with h1 | ⟨h1, h2⟩ | ⟨h1, h2⟩
  · have HS : Hid (setOf10 x m = 0) := by show _ = _; unfold setOf10; rw [if_neg (by omega)]
    generalize (imgCells v x).toArray = cs at *
    clear h
    go_enter Tryd.func42, Tryd.ntmps42
    go_wp2
    go_ret
    exact ⟨by rw [HS.out]; rfl, K0⟩
  · have HS : Hid (setOf10 x m = 0) := by show _ = _; unfold setOf10; rw [if_neg (by omega)]
    generalize (imgCells v x).toArray = cs at *
    clear h
    go_enter Tryd.func42, Tryd.ntmps42
    go_wp2
    go_ret
    exact ⟨by rw [HS.out]; rfl, K0⟩
  · obtain ⟨k, rfl⟩ : ∃ k : Nat, m = (k : Int) := ⟨m.toNat, by omega⟩
    have hk : k < x.modes.length := by omega
    have HS : Hid (setOf10 x k = x.modes[k].set) := by
      show _ = _; unfold setOf10
      rw [if_pos (by omega), Int.toNat_natCast, List.getD_eq_getElem?_getD, List.getElem?_eq_getElem hk]; rfl
    obtain ⟨b, o, hA, hbl, hm⟩ := h.mode (by omega)
    obtain ⟨A, c, hc, _⟩ := hm k hk
    have hc0 := K0.cell (p := ⟨b, o + k * 2, none⟩) hbl (by simp) |>.trans (hc 0 _ rfl)
    rw [hA] at c2
    clear hm hc h
    generalize x.modes[k].set = s at *
    generalize (imgCells v x).toArray = cs at *
    go_enter Tryd.func42, Tryd.ntmps42
    go_wp2
    go_ret
    exact ⟨by rw [HS.out]; rfl, K0⟩
end Go.Proofs.YtfgjcjpemlgnmaaDoor
