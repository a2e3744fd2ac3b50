/- What image's functions answer of any image: all tasks, a mode's, an edge, may a task be, may queues be. May a task be: the program's own test and the document's. -/
import Derived.Test.YteflgdnekflbbaaDoorImgMem
import Derived.Test.YteflgdnekflbbaaDoorMask
import Derived.Test.YteflgdnekflbbaaDoorFlow
namespace Go.Proofs.YteflgdnekflbbaaDoor
open Go.RowKit

theorem Blk.at_ {w : World} {g t : Nat} {l : List Value} (h : Blk w g t l.toArray) {j : Nat} {u : Value} (hu : l[j]? = some u) : w.cell? ⟨g, j, none⟩ = some u := by rw [h.cell, List.getElem?_toArray]; exact hu
theorem Blk.new1 (w : World) (o : Obj) (t : TypeId) (cs : Array Value) : Blk ((w.alloc o).alloc (.cells cs t)) (w.heap.size + 1) t cs := by
  have := Blk.new (w.alloc o) t cs
  rwa [World.size_alloc] at this
theorem Blk.new2 (w : World) (o o' : Obj) (t : TypeId) (cs : Array Value) : Blk (((w.alloc o).alloc o').alloc (.cells cs t)) (w.heap.size + 2) t cs := by
  have := Blk.new1 (w.alloc o) o' t cs
  rwa [World.size_alloc] at this
theorem Blk.new3 (w : World) (o o' o'' : Obj) (t : TypeId) (cs : Array Value) : Blk ((((w.alloc o).alloc o').alloc o'').alloc (.cells cs t)) (w.heap.size + 3) t cs := by
  have := Blk.new2 (w.alloc o) o' o'' t cs
  rwa [World.size_alloc] at this
/-- The cells of an image's own variable. -/
theorem img_box (w : World) (v : ImgV) (x : Img) : Blk (w.alloc (.cells (imgCells v x).toArray 26)) w.heap.size 26 (imgCells v x).toArray := Blk.new _ _ _
theorem img_c0 {w : World} {g : Nat} {v : ImgV} {x : Img} (h : Blk w g 26 (imgCells v x).toArray) : w.cell? ⟨g, 0, none⟩ = some (.int .i64 x.res) := by rw [h.cell]; rfl
theorem img_c1 {w : World} {g : Nat} {v : ImgV} {x : Img} (h : Blk w g 26 (imgCells v x).toArray) : w.cell? ⟨g, 1, none⟩ = some (.slice v.ta x.tasks.length v.tc) := by rw [h.cell]; rfl
theorem img_c2 {w : World} {g : Nat} {v : ImgV} {x : Img} (h : Blk w g 26 (imgCells v x).toArray) : w.cell? ⟨g, 2, none⟩ = some (.slice v.ma x.modes.length v.mc) := by rw [h.cell]; rfl
theorem img_c3 {w : World} {g : Nat} {v : ImgV} {x : Img} (h : Blk w g 26 (imgCells v x).toArray) : w.cell? ⟨g, 3, none⟩ = some (.slice v.ea x.edges.length v.ec) := by rw [h.cell]; rfl

theorem allSet_bit (k : Nat) : allSet (min k 32) ||| bitN (k : Int) = allSet (min (k + 1) 32) := by
  by_cases h : k < 32
  · rw [bitN_nat h, Nat.min_eq_left (by omega), Nat.min_eq_left (by omega), allSet_or]
  · have : bitN (k : Int) = 0 := by unfold bitN; rw [if_neg (by omega)]
    rw [this, Nat.min_eq_right (by omega), Nat.min_eq_right (by omega), Nat.or_zero]

set_option maxRecDepth 100000 in
set_option maxHeartbeats 1000000 in
theorem all_any (v : ImgV) (x : Img) (w : World) (hl : x.tasks.length ≤ maxLen) : Calls Tryd.prog 36 #[.agg (imgCells v x).toArray] w fun e w' => e = .returned (.int .u32 (allSet (min x.tasks.length 32) : Int)) ∧ Keep [] w w' := by
  unfold maxLen at hl
  have hb := img_box w v x
  have K0 := (Keep.refl [] w).alloc (.cells (imgCells v x).toArray 26)
  have c1 := img_c1 hb
  clear hb
  generalize x.tasks.length = n at *
  generalize (imgCells v x).toArray = cs at *
  go_enter Tryd.func36, Tryd.ntmps36
  go_wp2
  go_loopw [3, 8] (fun s i wr => ∃ k : Nat, k ≤ n ∧ i = .int .i64 k ∧ s = .int .u32 (allSet (min k 32) : Int) ∧ Keep [] w wr) (fun _ i _ => n - (intOf i).toNat)
  case atStart => exact ⟨0, Nat.zero_le _, rfl, rfl, K0⟩
  case round =>
    clear K0
    obtain ⟨k, hk, rfl, rfl, hkeep⟩ := hrel
    by_cases hlt : k < n
    · have HB := Lib.hid (allSet_bit k)
      have hs : allSet (min k 32) < 4294967296 := allSet_lt (by omega)
      go_wp2_with fail
      refine (with_any _ _ _ hs).mono ?_
      rintro e w' ⟨rfl, rfl⟩
      rw [HB.out]
      go_wp2
      go_roundw
      case rel => exact ⟨k + 1, by omega, by go_num, rfl, hkeep⟩
      case measure => simp [intOf] <;> omega
    · obtain rfl : k = n := by omega
      go_wp2
      go_ret
      exact ⟨rfl, hkeep⟩

/-- A mode's set. -/
def setOf10 (x : Img) (m : Int) : Nat := if 0 ≤ m ∧ m < x.modes.length then (x.modes.getD m.toNat ⟨0, []⟩).set else 0
theorem setOf10_lt (x : Img) (m : Int) (h : x.Ok) : setOf10 x m < 4294967296 := by
  unfold setOf10
  split
  · rw [List.getD_eq_getElem?_getD, List.getElem?_eq_getElem (by omega)]
    exact h.set _ (List.getElem_mem _)
  · omega
set_option maxRecDepth 100000 in
set_option maxHeartbeats 1000000 in
theorem tasks_any (v : ImgV) (x : Img) (m : Int) (w : World) (h : ImgAt w v x) : Calls Tryd.prog 27 #[.agg (imgCells v x).toArray, .int .i64 m] w fun e w' => e = .returned (.int .u32 (setOf10 x m : Int)) ∧ Keep [] w w' := by
  have hl := h.lm
  unfold maxLen at hl
  have hb := img_box w v x
  have K0 := (Keep.refl [] w).alloc (.cells (imgCells v x).toArray 26)
  have c2 := img_c2 hb
  clear hb
  have hc : m < 0 ∨ (0 ≤ m ∧ (x.modes.length : Int) ≤ m) ∨ (0 ≤ m ∧ m < x.modes.length) := by omega
  rcases hc with h1 | ⟨h1, h2⟩ | ⟨h1, h2⟩
  · have HS : Hid (setOf10 x m = 0) := by show _ = _; unfold setOf10; rw [if_neg (by omega)]
    generalize (imgCells v x).toArray = cs at *
    clear h
    go_enter Tryd.func27, Tryd.ntmps27
    go_wp2
    go_ret
    exact ⟨by rw [HS.out]; rfl, K0⟩
  · have HS : Hid (setOf10 x m = 0) := by show _ = _; unfold setOf10; rw [if_neg (by omega)]
    generalize (imgCells v x).toArray = cs at *
    clear h
    go_enter Tryd.func27, Tryd.ntmps27
    go_wp2
    go_ret
    exact ⟨by rw [HS.out]; rfl, K0⟩
  · obtain ⟨k, rfl⟩ : ∃ k : Nat, m = (k : Int) := ⟨m.toNat, by omega⟩
    have hk : k < x.modes.length := by omega
    have HS : Hid (setOf10 x k = x.modes[k].set) := by
      show _ = _; unfold setOf10
      rw [if_pos (by omega), Int.toNat_natCast, List.getD_eq_getElem?_getD, List.getElem?_eq_getElem hk]; rfl
    obtain ⟨b, o, hA, hbl, hm⟩ := h.mode (by omega)
    obtain ⟨A, c, hc, _⟩ := hm k hk
    have hc0 := K0.cell (p := ⟨b, o + k * 2, none⟩) hbl (by simp) |>.trans (hc 0 _ rfl)
    rw [hA] at c2
    clear hm hc h
    generalize x.modes[k].set = s at *
    generalize (imgCells v x).toArray = cs at *
    go_enter Tryd.func27, Tryd.ntmps27
    go_wp2
    go_ret
    exact ⟨by rw [HS.out]; rfl, K0⟩
end Go.Proofs.YteflgdnekflbbaaDoor

namespace Go.Proofs.YteflgdnekflbbaaDoor
open Go.RowKit

theorem lonOk_step {cost res : Int} {l : List Int} {k : Nat} (hk : k < l.length) (h : lonOk cost res 0 (l.take k) = true) (hi : inR l[k] 0 (if res ≤ (k : Int) then 0 else cost) = true) : lonOk cost res 0 (l.take (k + 1)) = true := by
  have e : 0 + (l.take k).length = k := by rw [List.length_take]; omega
  rw [List.take_succ_eq_append_getElem hk, lonOk_append, h, e, lonOk, hi, lonOk]; rfl
theorem lonOk_bad {cost res : Int} {l : List Int} {k : Nat} (hk : k < l.length) (hi : inR l[k] 0 (if res ≤ (k : Int) then 0 else cost) = false) : lonOk cost res 0 l = false := by
  have h0 : l = l.take k ++ l.drop k := (List.take_append_drop k l).symm
  have e : 0 + (l.take k).length = k := by rw [List.length_take]; omega
  rw [h0, lonOk_append, List.drop_eq_getElem_cons hk, e, lonOk, hi, Bool.false_and, Bool.and_false]
theorem tsk_len {t : Tsk} (h : t.lon.length = 8) : (tskCells t).length = 11 := tskCells_len h
theorem tsk_c (t : Tsk) (j : Nat) (h : j < (tskInts t).length) : (tskCells t)[j]? = some (.int .i64 (tskInts t)[j]) := iv_get h
theorem tsk_lon (t : Tsk) (k : Nat) (h : k < t.lon.length) : (tskCells t)[3 + k]? = some (.int .i64 t.lon[k]) := by
  rw [tsk_c t (3 + k) (by simp [tskInts]; omega)]
  simp [tskInts, show 3 + k = k + 3 by omega]
theorem tsk_lonAt {w : World} {g ty : Nat} {t : Tsk} (h : Blk w g ty (tskCells t).toArray) : CellsAt w g 3 (iv t.lon) := by
  intro j u hu
  have hj : j < t.lon.length := by have := (List.getElem?_eq_some_iff.1 hu).1; simpa using this
  rw [iv_get hj] at hu
  exact h.at_ ((tsk_lon t j hj).trans hu)
theorem agg_8 : AggOf Tryd.prog 86 8 := ⟨by kernel_rfl, by kernel_rfl⟩

set_option maxRecDepth 100000 in
set_option maxHeartbeats 1000000 in
theorem task_any (t : Tsk) (res : Int) (w : World) (hl : t.lon.length = 8) :
    Calls Tryd.prog 35 #[.agg (tskCells t).toArray, .int .i64 res] w fun e w' => e = .returned (.bool (tskOk t res)) ∧ Keep [] w w' := by
  have hb := Blk.new w 88 (tskCells t).toArray
  have K0 := (Keep.refl [] w).alloc (.cells (tskCells t).toArray 88)
  have c0 := hb.at_ (tsk_c t 0 (by simp [tskInts]))
  have c1 := hb.at_ (tsk_c t 1 (by simp [tskInts]))
  have c2 := hb.at_ (tsk_c t 2 (by simp [tskInts]))
  have cl := Lib.hid (tsk_lonAt hb)
  simp only [tskInts, List.getElem_cons_zero, List.getElem_cons_succ] at c0 c1 c2
  have HT : Hid (tskOk t res = (inR t.per 1 4096 && inR t.ded 1 t.per && inR t.cost 1 t.ded && lonOk t.cost res 0 t.lon)) := show _ = _ from rfl
  have HL8 := Lib.hid hl
  clear hb hl
  generalize (tskCells t).toArray = cs at *
  generalize t.per = per at *
  generalize t.ded = ded at *
  generalize t.cost = cost at *
  generalize t.lon = lon at *
  generalize tskOk t res = ok at *
  have hc : (per < 1) ∨ (1 ≤ per ∧ 4096 < per) ∨ (1 ≤ per ∧ per ≤ 4096 ∧ ded < 1) ∨ (1 ≤ per ∧ per ≤ 4096 ∧ 1 ≤ ded ∧ per < ded) ∨ (1 ≤ per ∧ per ≤ 4096 ∧ 1 ≤ ded ∧ ded ≤ per ∧ cost < 1) ∨ (1 ≤ per ∧ per ≤ 4096 ∧ 1 ≤ ded ∧ ded ≤ per ∧ 1 ≤ cost ∧ ded < cost) ∨
    (1 ≤ per ∧ per ≤ 4096 ∧ 1 ≤ ded ∧ ded ≤ per ∧ 1 ≤ cost ∧ cost ≤ ded) := by omega
  rcases hc with h1 | ⟨h1, h2⟩ | ⟨h1, h2, h3⟩ | ⟨h1, h2, h3, h4⟩ | ⟨h1, h2, h3, h4, h5⟩ | ⟨h1, h2, h3, h4, h5, h6⟩ | ⟨h1, h2, h3, h4, h5, h6⟩
  iterate 6
    · have HF : Hid (ok = false) := by
        show _ = _
        rw [HT.out]
        unfold inR
        simp <;> omega
      go_enter Tryd.func35, Tryd.ntmps35
      go_wp2
      go_ret
      exact ⟨by rw [HF.out]; rfl, K0⟩
  have HF : Hid (ok = lonOk cost res 0 lon) := by
    show _ = _
    rw [HT.out]
    unfold inR
    simp [h1, h2, h3, h4, h5, h6]
  go_enter Tryd.func35, Tryd.ntmps35
  go_wp2_with (refine wpList_load_agg rfl 86 (.tmp 39) rfl rfl (cs := iv lon) (by rw [List.length_map, HL8.out]; exact agg_8) cl.out ?_)
  have hidx := Lib.hid (fun k (hk : k < 8) v hv W => run_index_agg (P := Tryd.prog) (t := 86) (e := 3) (n := 8) (cs := (iv lon).toArray) (v := v) Tryd.underlying86 Tryd.underlying3 rfl (by kernel_rfl) k hk hv W)
  have hget : Hid (∀ k, (hk : k < lon.length) → (iv lon).toArray[k]? = some (.int .i64 lon[k])) := fun k hk => by rw [List.getElem?_toArray, iv_get hk]
  clear cl
  generalize (iv lon).toArray = la at *
  go_loopw [41] (fun i wr => ∃ k : Nat, k ≤ 8 ∧ i = .int .i64 k ∧ lonOk cost res 0 (lon.take k) = true ∧ w.alloc (.cells cs 88) = wr) (fun i _ => 8 - (intOf i).toNat)
  case atStart => exact ⟨0, Nat.zero_le _, rfl, rfl, rfl⟩
  case round =>
    obtain ⟨k, hk, rfl, hlon, rfl⟩ := hrel
    by_cases hlt : k < 8
    · have hk' : k < lon.length := by rw [HL8.out]; exact hlt
      have hi := fun W => hidx.out k hlt _ (hget.out k hk') W
      have hst := Lib.hid (lonOk_step hk' hlon)
      have hbd := Lib.hid (lonOk_bad (cost := cost) (res := res) hk')
      have hls := Lib.hid (lon_step lon[k] cost res k h5)
      clear hlon
      generalize lon[k] = n at *
      have hc : (n < 0) ∨ (0 ≤ n ∧ cost < n) ∨ (0 ≤ n ∧ n ≤ cost ∧ res ≤ (k : Int) ∧ n ≠ 0) ∨ (0 ≤ n ∧ n ≤ cost ∧ res ≤ (k : Int) ∧ n = 0) ∨ (0 ≤ n ∧ n ≤ cost ∧ (k : Int) < res) := by omega
      rcases hc with g1 | ⟨g1, g2⟩ | ⟨g1, g2, g3, g4⟩ | ⟨g1, g2, g3, g4⟩ | ⟨g1, g2, g3⟩
      · have HB := Lib.hid (hbd.out (by rw [hls.out]; simp [g1]))
        go_wp2
        go_ret
        exact ⟨by rw [HF.out, HB.out]; rfl, K0⟩
      · have HB := Lib.hid (hbd.out (by rw [hls.out]; simp [g2]))
        go_wp2
        go_ret
        exact ⟨by rw [HF.out, HB.out]; rfl, K0⟩
      · have HB := Lib.hid (hbd.out (by rw [hls.out]; simp [g3, g4]))
        have g5 : (n != 0) = true := by simp [g4]
        clear g4
        go_wp2
        go_ret
        exact ⟨by rw [HF.out, HB.out]; rfl, K0⟩
      · have HS := Lib.hid (hst.out (by rw [hls.out]; simp [g4]; omega))
        have g5 : (n != 0) = false := by simp [g4]
        clear g4
        go_wp2
        go_roundw
        case rel => exact ⟨k + 1, by omega, by go_num, HS.out, by trivial⟩
        case measure => simp [intOf] <;> omega
      · have HS := Lib.hid (hst.out (by rw [hls.out]; simp; omega))
        go_wp2
        go_roundw
        case rel => exact ⟨k + 1, by omega, by go_num, HS.out, by trivial⟩
        case measure => simp [intOf] <;> omega
    · obtain rfl : k = 8 := by omega
      rw [List.take_of_length_le (by rw [HL8.out]; exact Nat.le_refl _)] at hlon
      have HB := Lib.hid hlon
      clear hlon
      go_wp2
      go_ret
      exact ⟨by rw [HF.out, HB.out]; rfl, K0⟩

end Go.Proofs.YteflgdnekflbbaaDoor
