/- What image's functions answer of any image: all tasks, a mode's, an edge, may a task be, may queues be. -/
import Derived.Test.YteocldlglklnjaaDoorImgMem
import Derived.Test.YteocldlglklnjaaDoorMask
import Derived.Test.YteocldlglklnjaaDoorFlow
namespace Go.Proofs.YteocldlglklnjaaDoor
open Go.RowKit

theorem Blk.at_ {w : World} {g t : Nat} {l : List Value} (h : Blk w g t l.toArray) {j : Nat} {u : Value} (hu : l[j]? = some u) : w.cell? ⟨g, j, none⟩ = some u := by rw [h.cell, List.getElem?_toArray]; exact hu
theorem Blk.new1 (w : World) (o : Obj) (t : TypeId) (cs : Array Value) : Blk ((w.alloc o).alloc (.cells cs t)) (w.heap.size + 1) t cs := by
  have := Blk.new (w.alloc o) t cs
  rwa [World.size_alloc] at this
theorem Blk.new2 (w : World) (o o' : Obj) (t : TypeId) (cs : Array Value) : Blk (((w.alloc o).alloc o').alloc (.cells cs t)) (w.heap.size + 2) t cs := by
  have := Blk.new1 (w.alloc o) o' t cs
  rwa [World.size_alloc] at this
theorem Blk.new3 (w : World) (o o' o'' : Obj) (t : TypeId) (cs : Array Value) : Blk ((((w.alloc o).alloc o').alloc o'').alloc (.cells cs t)) (w.heap.size + 3) t cs := by
  have := Blk.new2 (w.alloc o) o' o'' t cs
  rwa [World.size_alloc] at this
/-- The cells of an image's own variable. -/
theorem img_box (w : World) (v : ImgV) (x : Img) : Blk (w.alloc (.cells (imgCells v x).toArray 26)) w.heap.size 26 (imgCells v x).toArray := Blk.new _ _ _
theorem img_c0 {w : World} {g : Nat} {v : ImgV} {x : Img} (h : Blk w g 26 (imgCells v x).toArray) : w.cell? ⟨g, 0, none⟩ = some (.int .i64 x.res) := by rw [h.cell]; rfl
theorem img_c1 {w : World} {g : Nat} {v : ImgV} {x : Img} (h : Blk w g 26 (imgCells v x).toArray) : w.cell? ⟨g, 1, none⟩ = some (.slice v.ta x.tasks.length v.tc) := by rw [h.cell]; rfl
theorem img_c2 {w : World} {g : Nat} {v : ImgV} {x : Img} (h : Blk w g 26 (imgCells v x).toArray) : w.cell? ⟨g, 2, none⟩ = some (.slice v.ma x.modes.length v.mc) := by rw [h.cell]; rfl
theorem img_c3 {w : World} {g : Nat} {v : ImgV} {x : Img} (h : Blk w g 26 (imgCells v x).toArray) : w.cell? ⟨g, 3, none⟩ = some (.slice v.ea x.edges.length v.ec) := by rw [h.cell]; rfl

theorem allSet_bit (k : Nat) : allSet (min k 32) ||| bitN (k : Int) = allSet (min (k + 1) 32) := by
  by_cases h : k < 32
  · rw [bitN_nat h, Nat.min_eq_left (by omega), Nat.min_eq_left (by omega), allSet_or]
  · have : bitN (k : Int) = 0 := by unfold bitN; rw [if_neg (by omega)]
    rw [this, Nat.min_eq_right (by omega), Nat.min_eq_right (by omega), Nat.or_zero]

set_option maxRecDepth 100000 in
set_option maxHeartbeats 1000000 in
theorem all_any (v : ImgV) (x : Img) (w : World) (hl : x.tasks.length ≤ maxLen) : Calls Tryd.prog 69 #[.agg (imgCells v x).toArray] w fun e w' => e = .returned (.int .u32 (allSet (min x.tasks.length 32) : Int)) ∧ Keep [] w w' := by
  unfold maxLen at hl
  have hb := img_box w v x
  have K0 := (Keep.refl [] w).alloc (.cells (imgCells v x).toArray 26)
  have c1 := img_c1 hb
  clear hb
  generalize x.tasks.length = n at *
  generalize (imgCells v x).toArray = cs at *
  go_enter Tryd.func69, Tryd.ntmps69
  go_wp2
  go_loopw [3, 8] (fun s i wr => ∃ k : Nat, k ≤ n ∧ i = .int .i64 k ∧ s = .int .u32 (allSet (min k 32) : Int) ∧ Keep [] w wr) (fun _ i _ => n - (intOf i).toNat)
  case atStart => exact ⟨0, Nat.zero_le _, rfl, rfl, K0⟩
  case round =>
    clear K0
    obtain ⟨k, hk, rfl, rfl, hkeep⟩ := hrel
    by_cases hlt : k < n
    · have HB := Lib.hid (allSet_bit k)
      have hs : allSet (min k 32) < 4294967296 := allSet_lt (by omega)
      go_wp2_with fail
      refine (with_any _ _ _ hs).mono ?_
      rintro e w' ⟨rfl, rfl⟩
      rw [HB.out]
      go_wp2
      go_roundw
      case rel => exact ⟨k + 1, by omega, by go_num, rfl, hkeep⟩
      case measure => simp [intOf] <;> omega
    · obtain rfl : k = n := by omega
      go_wp2
      go_ret
      exact ⟨rfl, hkeep⟩

/-- A mode's set. -/
def setOf10 (x : Img) (m : Int) : Nat := if 0 ≤ m ∧ m < x.modes.length then (x.modes.getD m.toNat ⟨0, []⟩).set else 0
theorem setOf10_lt (x : Img) (m : Int) (h : x.Ok) : setOf10 x m < 4294967296 := by
  unfold setOf10
  split
  · rw [List.getD_eq_getElem?_getD, List.getElem?_eq_getElem (by omega)]
    exact h.set _ (List.getElem_mem _)
  · omega
set_option maxRecDepth 100000 in
set_option maxHeartbeats 1000000 in
theorem tasks_any (v : ImgV) (x : Img) (m : Int) (w : World) (h : ImgAt w v x) : Calls Tryd.prog 50 #[.agg (imgCells v x).toArray, .int .i64 m] w fun e w' => e = .returned (.int .u32 (setOf10 x m : Int)) ∧ Keep [] w w' := by
  have hl := h.lm
  unfold maxLen at hl
  have hb := img_box w v x
  have K0 := (Keep.refl [] w).alloc (.cells (imgCells v x).toArray 26)
  have c2 := img_c2 hb
  clear hb
  have hc : m < 0 ∨ (0 ≤ m ∧ (x.modes.length : Int) ≤ m) ∨ (0 ≤ m ∧ m < x.modes.length) := by omega
  rcases hc with h1 | ⟨h1, h2⟩ | ⟨h1, h2⟩
  · have HS : Hid (setOf10 x m = 0) := by show _ = _; unfold setOf10; rw [if_neg (by omega)]
    generalize (imgCells v x).toArray = cs at *
    clear h
    go_enter Tryd.func50, Tryd.ntmps50
    go_wp2
    go_ret
    exact ⟨by rw [HS.out]; rfl, K0⟩
  · have HS : Hid (setOf10 x m = 0) := by show _ = _; unfold setOf10; rw [if_neg (by omega)]
    generalize (imgCells v x).toArray = cs at *
    clear h
    go_enter Tryd.func50, Tryd.ntmps50
    go_wp2
    go_ret
    exact ⟨by rw [HS.out]; rfl, K0⟩
  · obtain ⟨k, rfl⟩ : ∃ k : Nat, m = (k : Int) := ⟨m.toNat, by omega⟩
    have hk : k < x.modes.length := by omega
    have HS : Hid (setOf10 x k = x.modes[k].set) := by
      show _ = _; unfold setOf10
      rw [if_pos (by omega), Int.toNat_natCast, List.getD_eq_getElem?_getD, List.getElem?_eq_getElem hk]; rfl
    obtain ⟨b, o, hA, hbl, hm⟩ := h.mode (by omega)
    obtain ⟨A, c, hc, _⟩ := hm k hk
    have hc0 := K0.cell (p := ⟨b, o + k * 2, none⟩) hbl (by simp) |>.trans (hc 0 _ rfl)
    rw [hA] at c2
    clear hm hc h
    generalize x.modes[k].set = s at *
    generalize (imgCells v x).toArray = cs at *
    go_enter Tryd.func50, Tryd.ntmps50
    go_wp2
    go_ret
    exact ⟨by rw [HS.out]; rfl, K0⟩
end Go.Proofs.YteocldlglklnjaaDoor
