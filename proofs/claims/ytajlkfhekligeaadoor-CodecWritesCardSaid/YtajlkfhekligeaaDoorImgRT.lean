/- May a task be, may queues be: the document's tests. -/
import Derived.Test.YtajlkfhekligeaaDoorImgT
namespace Go.Proofs.YtajlkfhekligeaaDoor
open Go.RowKit

set_option maxRecDepth 100000 in
set_option maxHeartbeats 1000000 in
theorem rtask_any (t : Tsk) (res : Int) (w : World) (hl : t.lon.length = 8) :
    Calls Tryd.prog 65 #[.agg (tskCells t).toArray, .int .i64 res] w fun e w' => e = .returned (.bool (tskOk t res)) ∧ Keep [] w w' := by
  have hb := Blk.new w 39 (tskCells t).toArray
  have K0 := (Keep.refl [] w).alloc (.cells (tskCells t).toArray 39)
  have c0 := hb.at_ (tsk_c t 0 (by simp [tskInts]))
  have c1 := hb.at_ (tsk_c t 1 (by simp [tskInts]))
  have c2 := hb.at_ (tsk_c t 2 (by simp [tskInts]))
  have cl := Lib.hid (tsk_lonAt hb)
  simp only [tskInts, List.getElem_cons_zero, List.getElem_cons_succ] at c0 c1 c2
  have HT : Hid (tskOk t res = (inR t.per 1 4096 && inR t.ded 1 t.per && inR t.cost 1 t.ded && lonOk t.cost res 0 t.lon)) := show _ = _ from rfl
  have HL8 := Lib.hid hl
  clear hb hl
  generalize (tskCells t).toArray = cs at *
  generalize t.per = per at *
  generalize t.ded = ded at *
  generalize t.cost = cost at *
  generalize t.lon = lon at *
  generalize tskOk t res = ok at *
  have hc : inR per 1 4096 = false ∨ (inR per 1 4096 = true ∧ inR ded 1 per = false) ∨ (inR per 1 4096 = true ∧ inR ded 1 per = true ∧ inR cost 1 ded = false) ∨ (inR per 1 4096 = true ∧ inR ded 1 per = true ∧ inR cost 1 ded = true) := by
    cases inR per 1 4096 <;> cases inR ded 1 per <;> cases inR cost 1 ded <;> simp
  rcases hc with h1 | ⟨h1, h2⟩ | ⟨h1, h2, h3⟩ | ⟨h1, h2, h3⟩
  iterate 3
    · have HF : Hid (ok = false) := by
        show _ = _
        rw [HT.out]
        simp [*]
      go_enter Tryd.func65, Tryd.ntmps65
      go_wp2_with (refine (in10_any _ _ _ _).mono ?_; rintro e w' ⟨rfl, rfl⟩)
      go_ret
      exact ⟨by rw [HF.out]; rfl, K0⟩
  have HF : Hid (ok = lonOk cost res 0 lon) := by
    show _ = _
    rw [HT.out, h1, h2, h3]
    simp
  go_enter Tryd.func65, Tryd.ntmps65
  go_wp2_with (refine (in10_any _ _ _ _).mono ?_; rintro e w' ⟨rfl, rfl⟩)
  clear h1 h2 h3
  go_loopw [5] (fun i wr => ∃ k : Nat, k ≤ 8 ∧ i = .int .i64 k ∧ lonOk cost res 0 (lon.take k) = true ∧ w.alloc (.cells cs 39) = wr) (fun i _ => 8 - (intOf i).toNat)
  case atStart => exact ⟨0, Nat.zero_le _, rfl, rfl, rfl⟩
  case round =>
    obtain ⟨k, hk, rfl, hlon, rfl⟩ := hrel
    by_cases hlt : k < 8
    · have hk' : k < lon.length := by rw [HL8.out]; exact hlt
      have hcell := cl.out k _ (iv_get hk')
      have hst := Lib.hid (lonOk_step hk' hlon)
      have hbd := Lib.hid (lonOk_bad (cost := cost) (res := res) hk')
      clear hlon
      generalize lon[k] = n at *
      rcases Int.lt_or_le (k : Int) res with g1 | g1
      · have e1 : Hid ((if res ≤ (k : Int) then 0 else cost) = cost) := by show _ = _; rw [if_neg (by omega)]
        cases hv : inR n 0 cost
        · have HB := Lib.hid (hbd.out (by rw [e1.out]; exact hv))
          go_wp2_with (refine (in10_any _ _ _ _).mono ?_; rintro e w' ⟨rfl, rfl⟩)
          go_ret
          exact ⟨by rw [HF.out, HB.out]; rfl, K0⟩
        · have HS := Lib.hid (hst.out (by rw [e1.out]; exact hv))
          go_wp2_with (refine (in10_any _ _ _ _).mono ?_; rintro e w' ⟨rfl, rfl⟩)
          go_roundw
          case rel => exact ⟨k + 1, by omega, by go_num, HS.out, by trivial⟩
          case measure => simp [intOf] <;> omega
      · have e1 : Hid ((if res ≤ (k : Int) then 0 else cost) = 0) := by show _ = _; rw [if_pos g1]
        cases hv : inR n 0 0
        · have HB := Lib.hid (hbd.out (by rw [e1.out]; exact hv))
          go_wp2_with (refine (in10_any _ _ _ _).mono ?_; rintro e w' ⟨rfl, rfl⟩)
          go_ret
          exact ⟨by rw [HF.out, HB.out]; rfl, K0⟩
        · have HS := Lib.hid (hst.out (by rw [e1.out]; exact hv))
          go_wp2_with (refine (in10_any _ _ _ _).mono ?_; rintro e w' ⟨rfl, rfl⟩)
          go_roundw
          case rel => exact ⟨k + 1, by omega, by go_num, HS.out, by trivial⟩
          case measure => simp [intOf] <;> omega
    · obtain rfl : k = 8 := by omega
      rw [List.take_of_length_le (by rw [HL8.out]; exact Nat.le_refl _)] at hlon
      have HB := Lib.hid hlon
      clear hlon
      go_wp2
      go_ret
      exact ⟨by rw [HF.out, HB.out]; rfl, K0⟩
end Go.Proofs.YtajlkfhekligeaaDoor
