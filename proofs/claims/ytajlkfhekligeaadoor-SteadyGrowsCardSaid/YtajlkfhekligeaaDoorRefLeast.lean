/- The least time, by the document (layer 16). -/
import Derived.Test.YtajlkfhekligeaaDoorDem
import Derived.Test.YtajlkfhekligeaaDoorLeast
namespace Go.Proofs.YtajlkfhekligeaaDoor
open Go.RowKit

set_option maxRecDepth 100000 in
set_option maxHeartbeats 2000000 in
theorem rleast_any (A : Option Addr) (c : Nat) (l : List Trm) (own most : Int) (w : World) (h : Reads w 4 A l.length (l.flatMap trmCells)) (hlen : l.length ≤ 64) (hmost : most ≤ 1099511627776) :
    Calls Tryd.prog 69 #[.int .i64 own, .int .i64 most, .slice A l.length c] w fun e w' => e = .returned (numRes (leastR own most (allM l))) ∧ Keep [] w w' := by
  have HAll := fun n W hk => Lib.hid (rall_any A c l n W (h.keep0 hk) hlen)
  have HM := Lib.hid hmost
  clear h hlen hmost
  by_cases ho : own < 0
  · have HX : Hid (numRes (leastR own most (allM l)) = .tuple #[.int .i64 0, .bool false]) := by show _ = _; unfold leastR; rw [if_pos ho]; rfl
    go_enter Tryd.func69, Tryd.ntmps69
    go_wp2
    go_ret2
    exact ⟨by rw [HX.out]; rfl, Keep.refl _ _⟩
  have ho2 : 0 ≤ own := by omega
  have HX : Hid (leastR own most (allM l) = upFrom own most (allM l) (most + 1 - max own 1).toNat (max own 1)) := by show _ = _; unfold leastR; rw [if_neg ho]
  clear ho
  generalize allM l = f at *
  have HS : Hid (∀ w1, stepM own f w1 = (f w1).bind (addM own)) := fun _ => rfl
  rcases Int.lt_or_le own 1 with h1 | h1
  case' inl =>
    rw [show max own 1 = 1 by omega] at HX
  case' inr =>
    rw [show max own 1 = own by omega] at HX
  all_goals
    go_enter Tryd.func69, Tryd.ntmps69
    go_wp2
    go_loopw [8] (fun i wr => ∃ v : Int, i = .int .i64 v ∧ 1 ≤ v ∧ leastR own most f = upFrom own most f (most + 1 - v).toNat v ∧ Keep [] w wr) (fun i _ => (most + 1 - intOf i).toNat)
    case atStart => exact ⟨_, rfl, by omega, HX.out, Keep.refl _ _⟩
    case round =>
      obtain ⟨v, rfl, hv, hs, hK⟩ := hrel
      have HK := Lib.hid hK
      have hm := HM.out
      clear hK
      by_cases hlt : v ≤ most
      · rw [upFrom_step _ _ _ _ hlt, HS.out] at hs
        have HA := Lib.hid (HAll v wr HK.out)
        cases hf : f v with
        | none =>
          rw [hf] at HA hs
          have HY : Hid (numRes (leastR own most f) = .tuple #[.int .i64 0, .bool false]) := by show _ = _; rw [hs]; rfl
          clear hs
          go_wp2_with (refine HA.out.out.mono ?_; rintro e w5 ⟨rfl, k5⟩; rw [numRes_none])
          have K5 := Lib.hid (HK.out.then k5)
          go_ret2
          exact ⟨by rw [HY.out]; rfl, K5.out⟩
        | some n =>
          rw [hf] at HA hs
          cases hn : addM own n with
          | none =>
            have HY : Hid (numRes (leastR own most f) = .tuple #[.int .i64 0, .bool false]) := by show _ = _; rw [hs]; show numRes ((addM own n).bind _) = _; rw [hn]; rfl
            have HD := fun w => Lib.hid (r2add_any own n w)
            clear hs
            go_wp2_with (first
              | (refine HA.out.out.mono ?_; rintro e w5 ⟨rfl, k5⟩; rw [numRes_some])
              | (refine (HD _).out.mono ?_; rintro e w6 ⟨rfl, rfl⟩; rw [hn, numRes_none]))
            have K5 := Lib.hid (HK.out.then k5)
            go_ret2
            exact ⟨by rw [HY.out]; rfl, K5.out⟩
          | some s =>
            have HY : Hid (leastR own most f = if s ≤ v then some v else upFrom own most f (most + 1 - (v + 1)).toNat (v + 1)) := by show _ = _; rw [hs]; show (addM own n).bind _ = _; rw [hn]; rfl
            have HD := fun w => Lib.hid (r2add_any own n w)
            clear hs
            by_cases hsv : s ≤ v
            · have HZ : Hid (numRes (leastR own most f) = .tuple #[.int .i64 v, .bool true]) := by show _ = _; rw [HY.out, if_pos hsv]; rfl
              go_wp2_with (first
                | (refine HA.out.out.mono ?_; rintro e w5 ⟨rfl, k5⟩; rw [numRes_some])
                | (refine (HD _).out.mono ?_; rintro e w6 ⟨rfl, rfl⟩; rw [hn, numRes_some]))
              have K5 := Lib.hid (HK.out.then k5)
              go_ret2
              exact ⟨by rw [HZ.out]; rfl, K5.out⟩
            · have HZ : Hid (leastR own most f = upFrom own most f (most + 1 - (v + 1)).toNat (v + 1)) := by show _ = _; rw [HY.out, if_neg hsv]
              go_wp2_with (first
                | (refine HA.out.out.mono ?_; rintro e w5 ⟨rfl, k5⟩; rw [numRes_some])
                | (refine (HD _).out.mono ?_; rintro e w6 ⟨rfl, rfl⟩; rw [hn, numRes_some]))
              have K5 := Lib.hid (HK.out.then k5)
              go_roundw
              case rel => exact ⟨v + 1, by go_num, by omega, HZ.out, K5.out⟩
              case measure => simp [intOf] <;> omega
      · have HY : Hid (numRes (leastR own most f) = .tuple #[.int .i64 0, .bool false]) := by show _ = _; rw [hs, upFrom_end _ _ _ _ (by omega)]; rfl
        clear hs
        go_wp2
        go_ret2
        exact ⟨by rw [HY.out]; rfl, HK.out⟩
end Go.Proofs.YtajlkfhekligeaaDoor
