/- May a task be: the program's own test and the document's. -/
import Derived.Test.YteocldlglklnjaaDoorImgA
namespace Go.Proofs.YteocldlglklnjaaDoor
open Go.RowKit

theorem lonOk_step {cost res : Int} {l : List Int} {k : Nat} (hk : k < l.length) (h : lonOk cost res 0 (l.take k) = true) (hi : inR l[k] 0 (if res ≤ (k : Int) then 0 else cost) = true) : lonOk cost res 0 (l.take (k + 1)) = true := by
  have e : 0 + (l.take k).length = k := by rw [List.length_take]; omega
  rw [List.take_succ_eq_append_getElem hk, lonOk_append, h, e, lonOk, hi, lonOk]; rfl
theorem lonOk_bad {cost res : Int} {l : List Int} {k : Nat} (hk : k < l.length) (hi : inR l[k] 0 (if res ≤ (k : Int) then 0 else cost) = false) : lonOk cost res 0 l = false := by
  have h0 : l = l.take k ++ l.drop k := (List.take_append_drop k l).symm
  have e : 0 + (l.take k).length = k := by rw [List.length_take]; omega
  rw [h0, lonOk_append, List.drop_eq_getElem_cons hk, e, lonOk, hi, Bool.false_and, Bool.and_false]
theorem tsk_len {t : Tsk} (h : t.lon.length = 8) : (tskCells t).length = 11 := tskCells_len h
theorem tsk_c (t : Tsk) (j : Nat) (h : j < (tskInts t).length) : (tskCells t)[j]? = some (.int .i64 (tskInts t)[j]) := iv_get h
theorem tsk_lon (t : Tsk) (k : Nat) (h : k < t.lon.length) : (tskCells t)[3 + k]? = some (.int .i64 t.lon[k]) := by
  rw [tsk_c t (3 + k) (by simp [tskInts]; omega)]
  simp [tskInts, show 3 + k = k + 3 by omega]
theorem tsk_lonAt {w : World} {g ty : Nat} {t : Tsk} (h : Blk w g ty (tskCells t).toArray) : CellsAt w g 3 (iv t.lon) := by
  intro j u hu
  have hj : j < t.lon.length := by have := (List.getElem?_eq_some_iff.1 hu).1; simpa using this
  rw [iv_get hj] at hu
  exact h.at_ ((tsk_lon t j hj).trans hu)
theorem agg_8 : AggOf Tryd.prog 37 8 := ⟨by kernel_rfl, by kernel_rfl⟩

set_option maxRecDepth 100000 in
set_option maxHeartbeats 1000000 in
theorem task_any (t : Tsk) (res : Int) (w : World) (hl : t.lon.length = 8) :
    Calls Tryd.prog 68 #[.agg (tskCells t).toArray, .int .i64 res] w fun e w' => e = .returned (.bool (tskOk t res)) ∧ Keep [] w w' := by
  have hb := Blk.new w 39 (tskCells t).toArray
  have K0 := (Keep.refl [] w).alloc (.cells (tskCells t).toArray 39)
  have c0 := hb.at_ (tsk_c t 0 (by simp [tskInts]))
  have c1 := hb.at_ (tsk_c t 1 (by simp [tskInts]))
  have c2 := hb.at_ (tsk_c t 2 (by simp [tskInts]))
  have cl := Lib.hid (tsk_lonAt hb)
  simp only [tskInts, List.getElem_cons_zero, List.getElem_cons_succ] at c0 c1 c2
  have HT : Hid (tskOk t res = (inR t.per 1 4096 && inR t.ded 1 t.per && inR t.cost 1 t.ded && lonOk t.cost res 0 t.lon)) := show _ = _ from rfl
  have HL8 := Lib.hid hl
  clear hb hl
  generalize (tskCells t).toArray = cs at *
  generalize t.per = per at *
  generalize t.ded = ded at *
  generalize t.cost = cost at *
  generalize t.lon = lon at *
  generalize tskOk t res = ok at *
  have hc : (per < 1) ∨ (1 ≤ per ∧ 4096 < per) ∨ (1 ≤ per ∧ per ≤ 4096 ∧ ded < 1) ∨ (1 ≤ per ∧ per ≤ 4096 ∧ 1 ≤ ded ∧ per < ded) ∨ (1 ≤ per ∧ per ≤ 4096 ∧ 1 ≤ ded ∧ ded ≤ per ∧ cost < 1) ∨ (1 ≤ per ∧ per ≤ 4096 ∧ 1 ≤ ded ∧ ded ≤ per ∧ 1 ≤ cost ∧ ded < cost) ∨
    (1 ≤ per ∧ per ≤ 4096 ∧ 1 ≤ ded ∧ ded ≤ per ∧ 1 ≤ cost ∧ cost ≤ ded) := by omega
  rcases hc with h1 | ⟨h1, h2⟩ | ⟨h1, h2, h3⟩ | ⟨h1, h2, h3, h4⟩ | ⟨h1, h2, h3, h4, h5⟩ | ⟨h1, h2, h3, h4, h5, h6⟩ | ⟨h1, h2, h3, h4, h5, h6⟩
  iterate 6
    · have HF : Hid (ok = false) := by
        show _ = _
        rw [HT.out]
        unfold inR
        simp <;> omega
      go_enter Tryd.func68, Tryd.ntmps68
      go_wp2
      go_ret
      exact ⟨by rw [HF.out]; rfl, K0⟩
  have HF : Hid (ok = lonOk cost res 0 lon) := by
    show _ = _
    rw [HT.out]
    unfold inR
    simp [h1, h2, h3, h4, h5, h6]
  go_enter Tryd.func68, Tryd.ntmps68
  go_wp2_with (refine wpList_load_agg rfl 37 (.tmp 39) rfl rfl (cs := iv lon) (by rw [List.length_map, HL8.out]; exact agg_8) cl.out ?_)
  have hidx := Lib.hid (fun k (hk : k < 8) v hv W => run_index_agg (P := Tryd.prog) (t := 37) (e := 3) (n := 8) (cs := (iv lon).toArray) (v := v) Tryd.underlying37 Tryd.underlying3 rfl (by kernel_rfl) k hk hv W)
  have hget : Hid (∀ k, (hk : k < lon.length) → (iv lon).toArray[k]? = some (.int .i64 lon[k])) := fun k hk => by rw [List.getElem?_toArray, iv_get hk]
  clear cl
  generalize (iv lon).toArray = la at *
  go_loopw [41] (fun i wr => ∃ k : Nat, k ≤ 8 ∧ i = .int .i64 k ∧ lonOk cost res 0 (lon.take k) = true ∧ w.alloc (.cells cs 39) = wr) (fun i _ => 8 - (intOf i).toNat)
  case atStart => exact ⟨0, Nat.zero_le _, rfl, rfl, rfl⟩
  case round =>
    obtain ⟨k, hk, rfl, hlon, rfl⟩ := hrel
    by_cases hlt : k < 8
    · have hk' : k < lon.length := by rw [HL8.out]; exact hlt
      have hi := fun W => hidx.out k hlt _ (hget.out k hk') W
      have hst := Lib.hid (lonOk_step hk' hlon)
      have hbd := Lib.hid (lonOk_bad (cost := cost) (res := res) hk')
      have hls := Lib.hid (lon_step lon[k] cost res k h5)
      clear hlon
      generalize lon[k] = n at *
      have hc : (n < 0) ∨ (0 ≤ n ∧ cost < n) ∨ (0 ≤ n ∧ n ≤ cost ∧ res ≤ (k : Int) ∧ n ≠ 0) ∨ (0 ≤ n ∧ n ≤ cost ∧ res ≤ (k : Int) ∧ n = 0) ∨ (0 ≤ n ∧ n ≤ cost ∧ (k : Int) < res) := by omega
      rcases hc with g1 | ⟨g1, g2⟩ | ⟨g1, g2, g3, g4⟩ | ⟨g1, g2, g3, g4⟩ | ⟨g1, g2, g3⟩
      · have HB := Lib.hid (hbd.out (by rw [hls.out]; simp [g1]))
        go_wp2
        go_ret
        exact ⟨by rw [HF.out, HB.out]; rfl, K0⟩
      · have HB := Lib.hid (hbd.out (by rw [hls.out]; simp [g2]))
        go_wp2
        go_ret
        exact ⟨by rw [HF.out, HB.out]; rfl, K0⟩
      · have HB := Lib.hid (hbd.out (by rw [hls.out]; simp [g3, g4]))
        have g5 : (n != 0) = true := by simp [g4]
        clear g4
        go_wp2
        go_ret
        exact ⟨by rw [HF.out, HB.out]; rfl, K0⟩
      · have HS := Lib.hid (hst.out (by rw [hls.out]; simp [g4]; omega))
        have g5 : (n != 0) = false := by simp [g4]
        clear g4
        go_wp2
        go_roundw
        case rel => exact ⟨k + 1, by omega, by go_num, HS.out, by trivial⟩
        case measure => simp [intOf] <;> omega
      · have HS := Lib.hid (hst.out (by rw [hls.out]; simp; omega))
        go_wp2
        go_roundw
        case rel => exact ⟨k + 1, by omega, by go_num, HS.out, by trivial⟩
        case measure => simp [intOf] <;> omega
    · obtain rfl : k = 8 := by omega
      rw [List.take_of_length_le (by rw [HL8.out]; exact Nat.le_refl _)] at hlon
      have HB := Lib.hid hlon
      clear hlon
      go_wp2
      go_ret
      exact ⟨by rw [HF.out, HB.out]; rfl, K0⟩

theorem in10_any (n a b : Int) (w : World) : Calls Tryd.prog 53 #[.int .i64 n, .int .i64 a, .int .i64 b] w fun e w' => e = .returned (.bool (inR n a b)) ∧ w = w' := by
  have hc : (n < a) ∨ (a ≤ n ∧ b < n) ∨ (a ≤ n ∧ n ≤ b) := by omega
  have HI : Hid (inR n a b = decide (a ≤ n ∧ n ≤ b)) := show _ = _ from rfl
  rcases hc with h | ⟨h1, h2⟩ | ⟨h1, h2⟩
  all_goals
    go_enter Tryd.func53, Tryd.ntmps53
    go_wp2
    go_ret
    exact ⟨by rw [HI.out]; simp <;> omega, rfl⟩
end Go.Proofs.YteocldlglklnjaaDoor
