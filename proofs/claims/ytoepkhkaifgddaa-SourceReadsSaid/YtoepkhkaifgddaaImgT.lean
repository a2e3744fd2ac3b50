/- What image's functions answer of any image: all tasks, a mode's, an edge, may a task be, may queues be. May a task be: the program's own test and the document's. -/
import Derived.Test.YtoepkhkaifgddaaImgMem
import Derived.Test.YtoepkhkaifgddaaMask
import Derived.Test.YtoepkhkaifgddaaFlow
namespace Go.Proofs.Ytoepkhkaifgddaa
open Go.RowKit

theorem Blk.at_ {w : World} {g t : Nat} {l : List Value} (h : Blk w g t l.toArray) {j : Nat} {u : Value} (hu : l[j]? = some u) : w.cell? ⟨g, j, none⟩ = some u := by rw [h.cell, List.getElem?_toArray]; exact hu
theorem Blk.new1 (w : World) (o : Obj) (t : TypeId) (cs : Array Value) : Blk ((w.alloc o).alloc (.cells cs t)) (w.heap.size + 1) t cs := by
  have := Blk.new (w.alloc o) t cs
  rwa [World.size_alloc] at this
theorem Blk.new2 (w : World) (o o' : Obj) (t : TypeId) (cs : Array Value) : Blk (((w.alloc o).alloc o').alloc (.cells cs t)) (w.heap.size + 2) t cs := by
  have := Blk.new1 (w.alloc o) o' t cs
  rwa [World.size_alloc] at this
theorem Blk.new3 (w : World) (o o' o'' : Obj) (t : TypeId) (cs : Array Value) : Blk ((((w.alloc o).alloc o').alloc o'').alloc (.cells cs t)) (w.heap.size + 3) t cs := by
  have := Blk.new2 (w.alloc o) o' o'' t cs
  rwa [World.size_alloc] at this
/-- The cells of an image's own variable. -/
theorem img_box (w : World) (v : ImgV) (x : Img) : Blk (w.alloc (.cells (imgCells v x).toArray 26)) w.heap.size 26 (imgCells v x).toArray := Blk.new _ _ _
theorem img_c0 {w : World} {g : Nat} {v : ImgV} {x : Img} (h : Blk w g 26 (imgCells v x).toArray) : w.cell? ⟨g, 0, none⟩ = some (.int .i64 x.res) := by rw [h.cell]; rfl
theorem img_c1 {w : World} {g : Nat} {v : ImgV} {x : Img} (h : Blk w g 26 (imgCells v x).toArray) : w.cell? ⟨g, 1, none⟩ = some (.slice v.ta x.tasks.length v.tc) := by rw [h.cell]; rfl
theorem img_c2 {w : World} {g : Nat} {v : ImgV} {x : Img} (h : Blk w g 26 (imgCells v x).toArray) : w.cell? ⟨g, 2, none⟩ = some (.slice v.ma x.modes.length v.mc) := by rw [h.cell]; rfl
theorem img_c3 {w : World} {g : Nat} {v : ImgV} {x : Img} (h : Blk w g 26 (imgCells v x).toArray) : w.cell? ⟨g, 3, none⟩ = some (.slice v.ea x.edges.length v.ec) := by rw [h.cell]; rfl

theorem allSet_bit (k : Nat) : allSet (min k 32) ||| bitN (k : Int) = allSet (min (k + 1) 32) := by
  by_cases h : k < 32
  · rw [bitN_nat h, Nat.min_eq_left (by omega), Nat.min_eq_left (by omega), allSet_or]
  · have : bitN (k : Int) = 0 := by unfold bitN; rw [if_neg (by omega)]
    rw [this, Nat.min_eq_right (by omega), Nat.min_eq_right (by omega), Nat.or_zero]

/-- A mode's set. -/
def setOf10 (x : Img) (m : Int) : Nat := if 0 ≤ m ∧ m < x.modes.length then (x.modes.getD m.toNat ⟨0, []⟩).set else 0
theorem setOf10_lt (x : Img) (m : Int) (h : x.Ok) : setOf10 x m < 4294967296 := by
  unfold setOf10
  split
  · rw [List.getD_eq_getElem?_getD, List.getElem?_eq_getElem (by omega)]
    exact h.set _ (List.getElem_mem _)
  · omega
end Go.Proofs.Ytoepkhkaifgddaa

namespace Go.Proofs.Ytoepkhkaifgddaa
open Go.RowKit

theorem lonOk_step {cost res : Int} {l : List Int} {k : Nat} (hk : k < l.length) (h : lonOk cost res 0 (l.take k) = true) (hi : inR l[k] 0 (if res ≤ (k : Int) then 0 else cost) = true) : lonOk cost res 0 (l.take (k + 1)) = true := by
  have e : 0 + (l.take k).length = k := by rw [List.length_take]; omega
  rw [List.take_succ_eq_append_getElem hk, lonOk_append, h, e, lonOk, hi, lonOk]; rfl
theorem lonOk_bad {cost res : Int} {l : List Int} {k : Nat} (hk : k < l.length) (hi : inR l[k] 0 (if res ≤ (k : Int) then 0 else cost) = false) : lonOk cost res 0 l = false := by
  have h0 : l = l.take k ++ l.drop k := (List.take_append_drop k l).symm
  have e : 0 + (l.take k).length = k := by rw [List.length_take]; omega
  rw [h0, lonOk_append, List.drop_eq_getElem_cons hk, e, lonOk, hi, Bool.false_and, Bool.and_false]
theorem tsk_len {t : Tsk} (h : t.lon.length = 8) : (tskCells t).length = 11 := tskCells_len h
theorem tsk_c (t : Tsk) (j : Nat) (h : j < (tskInts t).length) : (tskCells t)[j]? = some (.int .i64 (tskInts t)[j]) := iv_get h
theorem tsk_lon (t : Tsk) (k : Nat) (h : k < t.lon.length) : (tskCells t)[3 + k]? = some (.int .i64 t.lon[k]) := by
  rw [tsk_c t (3 + k) (by simp [tskInts]; omega)]
  simp [tskInts, show 3 + k = k + 3 by omega]
theorem tsk_lonAt {w : World} {g ty : Nat} {t : Tsk} (h : Blk w g ty (tskCells t).toArray) : CellsAt w g 3 (iv t.lon) := by
  intro j u hu
  have hj : j < t.lon.length := by have := (List.getElem?_eq_some_iff.1 hu).1; simpa using this
  rw [iv_get hj] at hu
  exact h.at_ ((tsk_lon t j hj).trans hu)
theorem agg_8 : AggOf Try.prog 69 8 := ⟨by kernel_rfl, by kernel_rfl⟩

theorem in10_any (n a b : Int) (w : World) : Calls Try.prog 78 #[.int .i64 n, .int .i64 a, .int .i64 b] w fun e w' => e = .returned (.bool (inR n a b)) ∧ w = w' := by
  have hc : (n < a) ∨ (a ≤ n ∧ b < n) ∨ (a ≤ n ∧ n ≤ b) := by omega
  have HI : Hid (inR n a b = decide (a ≤ n ∧ n ≤ b)) := show _ = _ from rfl
  rcases hc with h | ⟨h1, h2⟩ | ⟨h1, h2⟩
  all_goals
    go_enter Try.func78, Try.ntmps78
    go_wp2
    go_ret
    exact ⟨by rw [HI.out]; simp <;> omega, rfl⟩
end Go.Proofs.Ytoepkhkaifgddaa
