/- The law's Same, walked: true of a device and the document's value of one state. -/
import Derived.Test.YtgonnddgljgghaaLaw06Do2
namespace Go.Proofs.Ytgonnddgljgghaa
open Go.RowKit

theorem quiet_same' {P : Program} {f : FuncId} {args : Array Value} {w : World} {n : Nat} {v : Value}
    (h : Calls P f args (w.drewN n) fun e w' => e = .returned v ∧ w.drewN n = w') : Calls P f args (w.drewN n) fun e w'' => e = .returned v ∧ ∃ m, w'' = w.drewN m :=
  h.mono fun _ _ ⟨he, hm⟩ => ⟨he, n, hm.symm⟩

set_option maxRecDepth 100000 in
set_option maxHeartbeats 1000000 in
theorem same_any (base g b1 b2 : Nat) (A1 A2 : Option Addr) (c1 c2 : Nat) (d : Dev) (w : World) (hd : DevAt w g b1 b2 d) (hr : ROwn base [g, b1, b2] w A1 A2 c1 c2 d) (ho : d.Ok) :
    Calls Try.prog 55 #[.pointer (some ⟨g, 0, none⟩), .agg (refV d A1 A2 c1 c2).toArray] w fun e w' => e = .returned (.bool true) ∧ Keep [] w w' := by
  have B0 := Blk.new w 78 (refV d A1 A2 c1 c2).toArray
  have k0 := (Keep.refl [] w).alloc (.cells (refV d A1 A2 c1 c2).toArray 78)
  obtain ⟨q0, q1, _, q3, q4, q5, _, _, _, q9⟩ := ref_cells d A1 A2 c1 c2
  have hb6 := bits_le d ho
  have hwl := ho.wlen
  have hns := ho.ns2
  have hnw := ho.nw2
  have hns1 := ho.ns1
  have hnw1 := ho.nw1
  have hpos : 0 < d.bits.length := by rw [ho.blen]; exact Nat.mul_pos ho.ns1 ho.nw1
  obtain ⟨a, rfl, _, ha, _⟩ := hr.form hpos
  obtain ⟨a2, rfl, _, ha2, _⟩ := hr.form2 (by omega)
  have HD := Lib.hid hd
  have HR := Lib.hid hr
  have HO := Lib.hid ho
  have EQ : Hid (∀ σ, σ < d.ns → (sectS d (σ : Int)).length = d.nw ∧ wornS d σ = d.worn.getD σ 0 ∧ sectS d σ = sectL d σ) := fun σ h => by
    have e : sectS d (σ : Int) = sectL d σ := by unfold sectS; rw [if_pos (by omega)]; rfl
    exact ⟨by rw [e]; exact sectL_len d HO.out σ h, by unfold wornS; rw [if_pos (by omega)]; rfl, e⟩
  have K0 := Lib.hid k0
  have HB0 := Lib.hid B0
  have c5 := B0.cell 5
  have c9 := B0.cell 9
  rw [q5] at c5
  rw [q9] at c9
  have C5 := Lib.hid c5
  have C9 := Lib.hid c9
  have HFS := fun σ W (h : Keep [] w W) => Lib.hid (fsector_any g b1 b2 d σ W (HD.out.keep h (by simp) (by simp) (by simp)) HO.out)
  have HFW := fun σ W (h : Keep [] w W) => Lib.hid (fworn_any g b1 b2 d σ W (HD.out.keep h (by simp) (by simp) (by simp)) HO.out)
  have HFO := fun W (h : Keep [] w W) => Lib.hid (fon_any g b1 b2 d W (HD.out.keep h (by simp) (by simp) (by simp)))
  have HFP := fun W (h : Keep [] w W) => Lib.hid (fops_any g b1 b2 d W (HD.out.keep h (by simp) (by simp) (by simp)))
  clear hd hr ho q0 q1 q3 q4 q5 q9 k0 B0 c5 c9
  go_enter Try.func55, Try.ntmps55
  go_wp2_with fail
  generalize w.alloc (.cells (refV d (some ⟨a, 0, none⟩) (some ⟨a2, 0, none⟩) c1 c2).toArray 78) = W0 at *
  go_loopw [5] (fun vs wr => ∃ σ : Nat, σ ≤ d.ns ∧ vs = .int .i64 σ ∧ Keep [] W0 wr) (fun vs _ => d.ns - (intOf vs).toNat)
  case atStart => exact ⟨0, Nat.zero_le _, rfl, Keep.refl _ _⟩
  case round =>
    obtain ⟨σ, hσ, rfl, hk⟩ := hrel
    obtain ⟨wo, rfl⟩ : ∃ wo : World, wo = wr := ⟨_, rfl⟩
    have e0 := HB0.out.keep0 hk
    have p0 := e0.cell 0
    rw [(ref_cells d (some ⟨a, 0, none⟩) (some ⟨a2, 0, none⟩) c1 c2).1] at p0
    by_cases hlt : σ < d.ns
    · obtain ⟨hl, hw, hs⟩ := EQ.out σ hlt
      have HL := Lib.hid hl
      have HW := Lib.hid hw
      have HSL := Lib.hid hs
      have HKR := Lib.hid hk
      have HE0 := Lib.hid e0
      clear hl hw hs hk e0
      go_wp2_with fail
      refine (HFS σ wo (K0.out.then HKR.out)).out.mono ?_
      rintro e w1 ⟨A, c, rfl, hown, k1⟩
      rw [HL.out] at hown ⊢
      have k01 := HKR.out.then k1
      have k1' := k1
      have e1 := HE0.out.keep0 k1
      have p1 := e1.cell 1
      have p3 := e1.cell 3
      have p4 := e1.cell 4
      rw [(ref_cells d (some ⟨a, 0, none⟩) (some ⟨a2, 0, none⟩) c1 c2).2.1] at p1
      rw [(ref_cells d (some ⟨a, 0, none⟩) (some ⟨a2, 0, none⟩) c1 c2).2.2.2.1] at p3
      rw [(ref_cells d (some ⟨a, 0, none⟩) (some ⟨a2, 0, none⟩) c1 c2).2.2.2.2.1] at p4
      have hro := HR.out.keep0 (K0.out.then k01)
      have pw := hro.worn.cellAt σ (by omega)
      rw [List.getElem?_map, List.getElem?_eq_getElem (by omega), Option.map_some] at pw
      have hx : d.worn[σ]'(by omega) = d.worn.getD σ 0 := by simp [show σ < d.worn.length by omega]
      rw [hx] at pw
      have hσ1 : (σ : Int) < (d.worn.length : Int) := by omega
      have hσ0 : (0 : Int) ≤ (σ : Int) := by omega
      have HFW2 : Hid (∀ W, Keep [] w W → Calls Try.prog 59 #[.pointer (some ⟨g, 0, none⟩), .int .i64 (σ : Int)] W fun e w' => e = .returned (.int .i64 ((d.worn.getD σ 0 : Nat) : Int)) ∧ W = w') := fun W h => by have := (HFW σ W h).out; rw [HW.out] at this; exact this
      have HRO := Lib.hid hro
      have HOWN := Lib.hid hown
      have K01 := Lib.hid k01
      have KW := Lib.hid (K0.out.then k01)
      clear hro hown k1 e1 hx k01
      go_upto_region 5 with fail
      go_quiet ((go_at_call 59; exact quiet_same' (HFW2.out _ (KW.out.drewN _))))
      go_wp2_with fail
      have k2 := (Keep.refl [] w1).drewN nq
      have HB1 := Lib.hid ((HE0.out.keep0 k1').keep0 k2)
      have HRO2 := Lib.hid (HRO.out.keep0 k2)
      have HOWN2 := Lib.hid (own_keep0 HOWN.out k2)
      have K02 := Lib.hid (K01.out.then k2)
      obtain ⟨gs, rfl, hgs⟩ : ∃ gs, A = some ⟨gs, 0, none⟩ ∧ gs < w1.heap.size := by
        obtain ⟨gs, cap, hv, _, hl⟩ := HOWN.out.form (by omega)
        injection hv with hv
        exact ⟨gs, hv, hl⟩
      clear k2 p0 p1 p3 p4 pw
      generalize w1.drewN nq = w2 at *
      have hlo := sect_hi d HO.out σ hlt
      have hlo2 : σ * d.nw + d.nw ≤ 65536 := by omega
      have hwr1 : IntKind.i64.wrap ((σ : Int) * d.nw) = ((σ * d.nw : Nat) : Int) := by rw [show (σ : Int) * d.nw = ((σ * d.nw : Nat) : Int) by rw [Int.natCast_mul]]; exact IntWalk.i64_in _ (by omega)
      have HWR := Lib.hid hwr1
      clear hwr1
      go_loopw [7] (fun vk wi => ∃ k : Nat, k ≤ d.nw ∧ vk = .int .i64 k ∧ Keep [] w2 wi) (fun vk _ => d.nw - (intOf vk).toNat)
      case atStart => exact ⟨0, Nat.zero_le _, rfl, Keep.refl _ _⟩
      case round =>
        obtain ⟨k, hkn, rfl, hki⟩ := hrel
        have e2 := HB1.out.keep0 hki
        have p1 := e2.cell 1
        have p3 := e2.cell 3
        rw [(ref_cells d (some ⟨a, 0, none⟩) (some ⟨a2, 0, none⟩) c1 c2).2.1] at p1
        rw [(ref_cells d (some ⟨a, 0, none⟩) (some ⟨a2, 0, none⟩) c1 c2).2.2.2.1] at p3
        by_cases hltk : k < d.nw
        · have hro := HRO2.out.keep0 hki
          have hb := hro.bits.cellAt (σ * d.nw + k) (by omega)
          rw [List.getElem?_map, List.getElem?_eq_getElem (by omega), Option.map_some] at hb
          have ho2 := (own_keep0 HOWN2.out hki).cellAt k (by omega)
          rw [HSL.out, List.getElem?_map, sectL_get d σ k hltk, List.getElem?_eq_getElem (by omega), Option.map_some] at ho2
          generalize d.bits[σ * d.nw + k]'(by omega) = y at *
          have hwr := HWR.out
          have hwr2 : IntKind.i64.wrap (((σ * d.nw : Nat) : Int) + (k : Int)) = ((σ * d.nw + k : Nat) : Int) := by rw [← Int.natCast_add]; exact IntWalk.i64_in _ (by omega)
          have h0 : (0 : Int) ≤ (k : Int) := by omega
          have h1 : (k : Int) < (d.nw : Int) := by omega
          have h2 : (0 : Int) ≤ ((σ * d.nw + k : Nat) : Int) := by omega
          have h3 : ((σ * d.nw + k : Nat) : Int) < (d.bits.length : Int) := by omega
          have HKI := Lib.hid hki
          clear hro e2 hki
          generalize σ * d.nw + k = i at *
          generalize σ * d.nw = lo at *
          go_upto_region 10 with fail
          go_quiet (fail)
          go_wp2_with fail
          go_roundw
          case rel => exact ⟨k + 1, by omega, by go_num, HKI.out.drewN _⟩
          case measure => simp [intOf] <;> omega
        · have HKF := Lib.hid (K02.out.then hki)
          clear hki e2
          go_wp2_with fail
          go_roundw
          case rel => exact ⟨σ + 1, by omega, by go_num, HKF.out⟩
          case measure => simp [intOf] <;> omega
    · have HKR := Lib.hid hk
      have KW := Lib.hid (K0.out.then hk)
      have c5 := e0.cell 5
      have c9 := e0.cell 9
      rw [(ref_cells d (some ⟨a, 0, none⟩) (some ⟨a2, 0, none⟩) c1 c2).2.2.2.2.2.1] at c5
      rw [(ref_cells d (some ⟨a, 0, none⟩) (some ⟨a2, 0, none⟩) c1 c2).2.2.2.2.2.2.2.2.2] at c9
      clear e0 hk
      generalize d.on = on at *
      generalize d.ops = ops at *
      have hon : (on == !(!on)) = true := by cases on <;> rfl
      cases on
      all_goals
        go_upto_region 12 with fail
        go_quiet (first | (go_at_call 75; exact quiet_same' (HFO _ (KW.out.drewN _)).out) | (go_at_call 72; exact quiet_same' (HFP _ (KW.out.drewN _)).out))
        go_wp2_with fail
        go_ret
        exact ⟨rfl, KW.out.drewN _⟩
end Go.Proofs.Ytgonnddgljgghaa
