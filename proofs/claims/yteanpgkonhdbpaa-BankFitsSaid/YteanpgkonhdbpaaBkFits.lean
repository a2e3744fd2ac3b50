/- BankFits, walked: of which sectors a bank may be. No condition. -/
import Derived.Test.YteanpgkonhdbpaaBkAlive
import Derived.Test.YteanpgkonhdbpaaRefNew
namespace Go.Proofs.Yteanpgkonhdbpaa
open Go.RowKit

theorem getD_ones {l : List Nat} (h : ∀ x ∈ l, x = 4294967295) (i : Nat) : l.getD i 4294967295 = 4294967295 := by
  rw [List.getD_eq_getElem?_getD]
  cases hx : l[i]? with
  | none => rfl
  | some x => exact h x (List.mem_of_getElem? hx)
theorem sectL_ones (s n l σ : Nat) : ∀ x ∈ sectL (newD s n l) σ, x = 4294967295 := fun x hx => by
  have h : x ∈ List.replicate (s * n) 4294967295 := List.mem_of_mem_drop (List.mem_of_mem_take hx)
  exact (List.mem_replicate.1 h).2
theorem headH_ones {l : List Nat} (h : ∀ x ∈ l, x = 4294967295) : (headH l).valid = false ∧ (headH l).long = 0 := by
  have h0 : validH l = false := by
    unfold validH twoH atH
    simp only [getD_ones h]
    decide
  unfold headH
  rw [h0]
  exact ⟨rfl, rfl⟩
/-- A fresh device's bank. -/
theorem fresh_bank {s n l b m : Nat} (hbm : b + m ≤ s) (hm : 3 ≤ m) (hn : 13 ≤ n) (hl : 1 ≤ l) :
    voidB (newD s n l) (newB b m) = false ∧ (stateB (newD s n l) (newB b m)).valid = false ∧ imageB (newD s n l) (newB b m) = none ∧ wornB (newD s n l) (newB b m) = false := by
  have hv : voidB (newD s n l) (newB b m) = false := by
    unfold voidB wdJ newB newD
    have hlt : b * n + 0 < s * n := by
      have : b * n + n ≤ s * n := by
        have := Nat.mul_le_mul_right n (show b + 1 ≤ s by omega)
        rw [Nat.add_mul] at this
        omega
      omega
    dsimp only
    rw [List.getD_eq_getElem?_getD, List.getElem?_replicate, if_pos hlt]
    rfl
  have hh := headH_ones (sectL_ones s n l (b + 1))
  have hs : (stateB (newD s n l) (newB b m)).valid = false := by
    unfold stateB
    split
    · rfl
    · exact hh.1
  refine ⟨hv, hs, ?_, ?_⟩
  · unfold imageB
    rw [if_neg (by rw [hs]; simp)]
  · unfold wornB
    rw [List.any_eq_false]
    intro x _
    unfold wornOut wornS newD
    dsimp only
    split
    · rw [List.getD_eq_getElem?_getD, List.getElem?_replicate]
      split
      · simp; omega
      · simp; omega
    · simp; omega

set_option maxRecDepth 100000 in
theorem field_valid (h : HdS) (W : World) : (Instr.field 70 (.agg (hdCells h).toArray) 1).run Try.prog W = .ok (.bool h.valid) W :=
  run_field_one Try.underlying70 rfl Try.underlying4 rfl (by kernel_rfl) rfl W
def placeB (b m : Int) : Value := .agg #[.int .i64 b, .int .i64 m]

set_option maxRecDepth 100000 in
set_option maxHeartbeats 4000000 in
theorem fits_no (s n b m : Int) (w : World) (h : newOk s n 9 = false) :
    Calls Try.prog 5 #[.int .i64 s, .int .i64 n, placeB b m] w fun e w' => e = .returned (.bool true) ∧ Keep [] w w' := by
  have HR := fun W => Lib.hid (rnew_no s n 9 W h)
  have HA : Hid (AggOf Try.prog 57 10) := agg_ref
  have K0 := (Keep.refl [] w).alloc (.cells #[.int .i64 b, .int .i64 m] 53)
  clear h
  unfold placeB
  go_enter Try.func5, Try.ntmps5
  go_wp2_with fail
  refine (HR _).out.mono ?_
  rintro e w1 ⟨rfl, k1⟩
  have K1 := Lib.hid (K0.then k1)
  clear K0 k1
  go_wp2_with (refine stop_store 57 (.tmp 7) (.tmp 25) rfl ?_)
  constructor
  refine wpList_store_all rfl 57 (.tmp 7) (.tmp 25) rfl rfl rfl (t := 57) (cs := zeroD) (vs := zeroD.toList) HA.out.2 (Blk.new _ _ _) (by simp [Value.oneCell']) rfl ?_
  intro w2 e2 k2
  have kk : Keep [] w w2 := (K1.out.alloc (.cells zeroD 57)).trans k2 (by have := K1.out.size; simp; omega)
  have KK := Lib.hid kk
  clear kk k2 e2
  go_wp2_with fail
  go_ret
  exact ⟨rfl, KK.out⟩

set_option maxRecDepth 100000 in
set_option maxHeartbeats 4000000 in
theorem fits_yes (s n : Nat) (b m : Int) (w : World) (h0 : 1 ≤ s) (h1 : s ≤ 64) (h2 : 1 ≤ n) (h3 : n ≤ 1024) :
    Calls Try.prog 5 #[.int .i64 s, .int .i64 n, placeB b m] w fun e w' => e = .returned (.bool true) ∧ Keep [] w w' := by
  have HR := fun W => Lib.hid (rnew_yes s n 9 W h0 h1 h2 h3 (by decide))
  have HN : Hid (∀ W, Calls Try.prog 12 #[.int .i64 s, .int .i64 n, .int .i64 9] W (RetNew W (newD s n 9))) := fun W => fnew_yes s n 9 W h0 h1 h2 h3 (by decide)
  have HA : Hid (AggOf Try.prog 57 10) := agg_ref
  have HO : Hid ((newD s n 9).Ok) := newD_ok s n 9 h0 h1 h2 h3 (by decide)
  have HL : Hid ((newD s n 9).bits.length = s * n) := by show _ = _; simp [newD]
  have HFB : Hid (∀ b m : Nat, b + m ≤ s → 3 ≤ m → 13 ≤ n → voidB (newD s n 9) (newB b m) = false ∧ (stateB (newD s n 9) (newB b m)).valid = false ∧ imageB (newD s n 9) (newB b m) = none ∧ wornB (newD s n 9) (newB b m) = false) := fun b m h1 h2 h3 => fresh_bank h1 h2 h3 (by decide)
  have hsn : s * n ≤ 65536 := Nat.le_trans (Nat.mul_le_mul h1 h3) (by decide)
  obtain ⟨W0, hW0⟩ : ∃ W0, w.alloc (.cells #[.int .i64 b, .int .i64 m] 53) = W0 := ⟨_, rfl⟩
  have K0 : Keep [] w W0 := by rw [← hW0]; exact (Keep.refl [] w).alloc _
  have B0 : Blk W0 w.heap.size 53 #[.int .i64 b, .int .i64 m] := by rw [← hW0]; exact Blk.new _ _ _
  have hF : Hid (∀ W, Keep [] W0 W → W.cell? ⟨w.heap.size, 0, none⟩ = some (.int .i64 b) ∧ W.cell? ⟨w.heap.size, 1, none⟩ = some (.int .i64 m)) := fun W hk => by
    have := B0.keep hk (by simp)
    exact ⟨this.cell 0, this.cell 1⟩
  have HK0 := Lib.hid K0
  have HW0 := Lib.hid hW0
  have HAL := fun W => Lib.hid (alive_any08 W)
  have hgt0 := B0.lt
  clear K0 B0 hW0
  unfold placeB
  go_enter Try.func5, Try.ntmps5
  go_upto_region 1 with (rw [HW0.out])
  go_wp2_with fail
  refine (HR _).out.mono ?_
  rintro e w1 ⟨A1, A2, c1, c2, rfl, hro, k1⟩
  have HK1 := Lib.hid k1
  clear k1 hro
  go_wp2_with (refine stop_store 57 (.tmp 7) (.tmp 25) rfl ?_)
  constructor
  refine wpList_store_all rfl 57 (.tmp 7) (.tmp 25) rfl rfl rfl (t := 57) (cs := zeroD) (vs := refV (newD s n 9) A1 A2 c1 c2) HA.out.2 (Blk.new _ _ _) (refV_one _ _ _ _ _) rfl ?_
  intro w2 e2 k2
  have hc3 := e2.cell 3
  rw [(ref_cells (newD s n 9) A1 A2 c1 c2).2.2.2.1, HL.out] at hc3
  have KK : Hid (Keep [] W0 w2) := (HK1.out.alloc (.cells zeroD 57)).trans k2 (by have := HK1.out.size; simp; omega)
  clear k2 e2
  by_cases h4 : 5000 < s * n
  · have q4 : decide ((5000 : Int) < ((s * n : Nat) : Int)) = true := decide_eq_true (by omega)
    have p4 := eq_true h4
    generalize s * n = sn at *
    go_wp2_with fail
    go_ret
    exact ⟨rfl, HK0.out.then KK.out⟩
  have q4 : decide ((5000 : Int) < ((s * n : Nat) : Int)) = false := decide_eq_false (by omega)
  have p4 := eq_false h4
  generalize hsn' : s * n = sn at *
  clear hsn'
  go_wp2_with fail
  refine (HN.out _).mono ?_
  rintro e w3 ⟨g, b1, b2, rfl, hg, hb1, hb2, hd3, k3⟩
  have HK3 := Lib.hid (KK.out.then k3)
  have HD3 := Lib.hid hd3
  obtain ⟨d0, d1⟩ := hF.out w3 HK3.out
  have hz : w2.heap.size ≤ g := hg
  clear k3 hc3 hd3
  by_cases hbad : m < 3 ∨ (s : Int) < m ∨ b < 0 ∨ (s : Int) - m < b ∨ n < 13
  · have HBN := Lib.hid (bnew_no g b1 b2 b m (newD s n 9) w3 HD3.out HO.out (by show m < 3 ∨ 64 < m ∨ b < 0 ∨ (s : Int) - m < b ∨ n < 13; omega))
    have HNL := Lib.hid (bnew_nil b m w3)
    go_wp2_with fail
    refine HBN.out.mono ?_
    rintro e w4 ⟨rfl, rfl⟩
    go_wp2_with fail
    refine HNL.out.mono ?_
    rintro e w4 ⟨rfl, rfl⟩
    have hfin : ∀ w4, Keep [] w3 w4 → Keep [] w w4 := fun w4 k4 => (HK0.out.then HK3.out).then k4
    clear HBN HNL HD3 HO HL HFB HN HR hg hb1 hb2 hz
    by_cases g0 : m < 3
    · have q0 : decide ((3 : Int) ≤ m) = false := decide_eq_false (by omega)
      have r0 : ((3 : Int) ≤ m) = False := eq_false (by omega)
      clear hbad g0
      go_wp2_with fail
      refine (HAL _).out.mono ?_
      rintro e w4 ⟨rfl, k4⟩
      go_wp2
      go_ret
      exact ⟨rfl, hfin w4 k4⟩
    have q0 : decide ((3 : Int) ≤ m) = true := decide_eq_true (by omega)
    have r0 : ((3 : Int) ≤ m) = True := eq_true (by omega)
    by_cases g1 : (s : Int) < m
    · have q1 : decide (m ≤ (s : Int)) = false := decide_eq_false (by omega)
      have r1 : (m ≤ (s : Int)) = False := eq_false (by omega)
      clear hbad g1
      go_wp2_with fail
      refine (HAL _).out.mono ?_
      rintro e w4 ⟨rfl, k4⟩
      go_wp2
      go_ret
      exact ⟨rfl, hfin w4 k4⟩
    have q1 : decide (m ≤ (s : Int)) = true := decide_eq_true (by omega)
    have r1 : (m ≤ (s : Int)) = True := eq_true (by omega)
    by_cases g2 : b < 0
    · have q2 : decide ((0 : Int) ≤ b) = false := decide_eq_false (by omega)
      have r2 : ((0 : Int) ≤ b) = False := eq_false (by omega)
      clear hbad g2
      go_wp2_with fail
      refine (HAL _).out.mono ?_
      rintro e w4 ⟨rfl, k4⟩
      go_wp2
      go_ret
      exact ⟨rfl, hfin w4 k4⟩
    have q2 : decide ((0 : Int) ≤ b) = true := decide_eq_true (by omega)
    have r2 : ((0 : Int) ≤ b) = True := eq_true (by omega)
    have hw2 : IntKind.i64.wrap ((s : Int) - m) = (s : Int) - m := IntWalk.i64_in _ (by omega)
    by_cases g3 : (s : Int) - m < b
    · have q3 : decide (b ≤ (s : Int) - m) = false := decide_eq_false (by omega)
      have r3 : (b ≤ (s : Int) - m) = False := eq_false (by omega)
      clear hbad g3
      go_wp2_with fail
      refine (HAL _).out.mono ?_
      rintro e w4 ⟨rfl, k4⟩
      go_wp2
      go_ret
      exact ⟨rfl, hfin w4 k4⟩
    have q3 : decide (b ≤ (s : Int) - m) = true := decide_eq_true (by omega)
    have r3 : (b ≤ (s : Int) - m) = True := eq_true (by omega)
    have q5 : decide ((13 : Int) ≤ (n : Int)) = false := decide_eq_false (by omega)
    have r5 : (13 ≤ n) = False := eq_false (by omega)
    clear hbad
    go_wp2_with fail
    refine (HAL _).out.mono ?_
    rintro e w4 ⟨rfl, k4⟩
    go_wp2
    go_ret
    exact ⟨rfl, hfin w4 k4⟩
  · obtain ⟨b', rfl⟩ : ∃ k : Nat, b = (k : Int) := ⟨b.toNat, by omega⟩
    obtain ⟨m', rfl⟩ : ∃ k : Nat, m = (k : Int) := ⟨m.toNat, by omega⟩
    have hm3 : 3 ≤ m' := by omega
    have hbm : b' + m' ≤ s := by omega
    have hn13 : 13 ≤ n := by omega
    have HBN := Lib.hid (bnew_yes g b1 b2 b' m' (newD s n 9) w3 HD3.out HO.out hm3 hbm hn13)
    obtain ⟨fv, fs, fi, fw⟩ := HFB.out b' m' hbm hm3 hn13
    go_wp2_with fail
    refine HBN.out.mono ?_
    rintro e w4 ⟨gb, rfl, hgb, hb4, k4⟩
    have HK4 := Lib.hid (HK3.out.then k4)
    have HNL := Lib.hid (bnew_nil (b' : Int) (m' : Int) w4)
    clear d0 d1
    obtain ⟨d0, d1⟩ := hF.out w4 HK4.out
    have HBK : Hid (BkOk (newD s n 9) (newB b' m')) := ⟨hm3, hbm, hn13⟩
    have HD4 := Lib.hid (HD3.out.keep0 k4)
    have HB4 := Lib.hid hb4
    have HOP : Hid (∀ W, Keep [] w4 W → Calls Try.prog 28 #[.pointer (some ⟨gb, 0, none⟩)] W fun e w' => e = .returned (.tuple #[.int .i64 0, .bool false]) ∧ Keep [] W w') := fun W k => bopen_any gb g (newB b' m') W (HB4.out.keep0 k)
    have HIM : Hid (∀ W, Keep [] w4 W → Calls Try.prog 29 #[.pointer (some ⟨gb, 0, none⟩)] W (RetImg W none)) := fun W k => by
      have := bimage_any gb g b1 b2 (newD s n 9) (newB b' m') W (HB4.out.keep0 k) (HD4.out.keep0 k) HO.out HBK.out
      rw [fi] at this
      exact this
    have HRO : Hid (∀ W, Keep [] w4 W → Calls Try.prog 30 #[.pointer (some ⟨gb, 0, none⟩)] W fun e w' => e = .returned (.int .i64 ((min ((m' - 2) * n) 4096 : Nat) : Int)) ∧ Keep [] W w') := fun W k => broom_any gb g b1 b2 (newD s n 9) (newB b' m') W (HB4.out.keep0 k) (HD4.out.keep0 k) HO.out HBK.out
    have HVO : Hid (∀ W, Keep [] w4 W → Calls Try.prog 31 #[.pointer (some ⟨gb, 0, none⟩)] W fun e w' => e = .returned (.bool false) ∧ Keep [] W w') := fun W k => by
      have := bvoid_any gb g b1 b2 (newD s n 9) (newB b' m') W (HB4.out.keep0 k) (HD4.out.keep0 k) HO.out HBK.out
      rw [fv] at this
      exact this
    have HWO : Hid (∀ W, Keep [] w4 W → Calls Try.prog 33 #[.pointer (some ⟨gb, 0, none⟩)] W fun e w' => e = .returned (.bool false) ∧ Keep [] W w') := fun W k => by
      have := bworn_any gb g b1 b2 (newD s n 9) (newB b' m') W (HB4.out.keep0 k) (HD4.out.keep0 k) HO.out HBK.out
      rw [fw] at this
      exact this
    have HST : Hid (∀ W, Keep [] w4 W → Calls Try.prog 32 #[.pointer (some ⟨gb, 0, none⟩)] W fun e w' => e = .returned (.agg (hdCells (stateB (newD s n 9) (newB b' m'))).toArray) ∧ Keep [] W w') := fun W k =>
      bstate_any gb g b1 b2 (newD s n 9) (newB b' m') W (HB4.out.keep0 k) (HD4.out.keep0 k) HO.out HBK.out
    generalize stateB (newD s n 9) (newB b' m') = st at *
    have hfd : ∀ W, (Instr.field 70 (.agg (hdCells st).toArray) 1).run Try.prog W = .ok (.bool false) W := fun W => by
      have := field_valid st W
      rw [fs] at this
      exact this
    have hmk : (((m' - 2) * n : Nat) : Int) = ((m' : Int) - 2) * (n : Int) := by rw [Int.natCast_mul, Int.ofNat_sub (by omega)]; rfl
    have hmb : (m' - 2) * n ≤ 65536 := Nat.le_trans (Nat.mul_le_mul (show m' - 2 ≤ 64 by omega) h3) (by decide)
    generalize (m' - 2) * n = rm at *
    have q0 : decide ((3 : Int) ≤ (m' : Int)) = true := decide_eq_true (by omega)
    have q1 : decide ((m' : Int) ≤ (s : Int)) = true := decide_eq_true (by omega)
    have q2 : decide ((0 : Int) ≤ (b' : Int)) = true := decide_eq_true (by omega)
    have q3 : decide ((b' : Int) ≤ (s : Int) - (m' : Int)) = true := decide_eq_true (by omega)
    have q5 : decide ((13 : Int) ≤ (n : Int)) = true := decide_eq_true (by omega)
    have r0 : (3 ≤ m') = True := eq_true (by omega)
    have r1 : (m' ≤ s) = True := eq_true (by omega)
    have r3 : ((b' : Int) ≤ (s : Int) - (m' : Int)) = True := eq_true (by omega)
    have r5 : (13 ≤ n) = True := eq_true (by omega)
    have hw2 : IntKind.i64.wrap ((s : Int) - (m' : Int)) = (s : Int) - (m' : Int) := IntWalk.i64_in _ (by omega)
    have hw3 : IntKind.i64.wrap ((m' : Int) - 2) = (m' : Int) - 2 := IntWalk.i64_in _ (by omega)
    have hw4 : IntKind.i64.wrap (((m' : Int) - 2) * (n : Int)) = (rm : Int) := by rw [← hmk]; exact IntWalk.i64_in _ (by omega)
    have hfin : ∀ w5, Keep [] w4 w5 → Keep [] w w5 := fun w5 k5 => (HK0.out.then HK4.out).then k5
    clear k4 hb4 HB4 HD4 HD3 HBN HO HL HFB HN HR hg hb1 hb2 hz hgb fv fs fi fw hmk hbad hm3 hbm hn13
    go_wp2_with fail
    refine HNL.out.mono ?_
    rintro e w5 ⟨rfl, rfl⟩
    by_cases hcap : 4096 < rm
    · have q6 : decide ((4096 : Int) < (rm : Int)) = true := decide_eq_true (by omega)
      have r6 := eq_true hcap
      have hmin : min rm 4096 = 4096 := Nat.min_eq_right (by omega)
      rw [hmin] at HRO
      clear hmin
      go_wp2_with fail
      refine (HOP.out _ (Keep.refl _ _)).mono ?_
      rintro e w6 ⟨rfl, k6⟩
      go_wp2_with fail
      refine (HIM.out _ k6).mono ?_
      rintro e w7 ⟨rfl, k7⟩
      have k7' := k6.then k7
      go_wp2_with fail
      refine (HRO.out _ k7').mono ?_
      rintro e w8 ⟨rfl, k8⟩
      have k8' := k7'.then k8
      go_wp2_with fail
      refine (HVO.out _ k8').mono ?_
      rintro e w9 ⟨rfl, k9⟩
      have k9' := k8'.then k9
      go_wp2_with fail
      refine (HST.out _ k9').mono ?_
      rintro e w10 ⟨rfl, k10⟩
      have k10' := k9'.then k10
      go_wp2_with fail
      refine (HWO.out _ k10').mono ?_
      rintro e w11 ⟨rfl, k11⟩
      have k11' := k10'.then k11
      go_wp2_with fail
      refine (HAL _).out.mono ?_
      rintro e w12 ⟨rfl, k12⟩
      go_wp2
      go_ret
      exact ⟨rfl, hfin w12 (k11'.then k12)⟩
    · have q6 : decide ((4096 : Int) < (rm : Int)) = false := decide_eq_false (by omega)
      have r6 := eq_false hcap
      have hmin : min rm 4096 = rm := Nat.min_eq_left (by omega)
      rw [hmin] at HRO
      clear hmin
      go_wp2_with fail
      refine (HOP.out _ (Keep.refl _ _)).mono ?_
      rintro e w6 ⟨rfl, k6⟩
      go_wp2_with fail
      refine (HIM.out _ k6).mono ?_
      rintro e w7 ⟨rfl, k7⟩
      have k7' := k6.then k7
      go_wp2_with fail
      refine (HRO.out _ k7').mono ?_
      rintro e w8 ⟨rfl, k8⟩
      have k8' := k7'.then k8
      go_wp2_with fail
      refine (HVO.out _ k8').mono ?_
      rintro e w9 ⟨rfl, k9⟩
      have k9' := k8'.then k9
      go_wp2_with fail
      refine (HST.out _ k9').mono ?_
      rintro e w10 ⟨rfl, k10⟩
      have k10' := k9'.then k10
      go_wp2_with fail
      refine (HWO.out _ k10').mono ?_
      rintro e w11 ⟨rfl, k11⟩
      have k11' := k10'.then k11
      go_wp2_with fail
      refine (HAL _).out.mono ?_
      rintro e w12 ⟨rfl, k12⟩
      go_wp2
      go_ret
      exact ⟨rfl, hfin w12 (k11'.then k12)⟩
end Go.Proofs.Yteanpgkonhdbpaa
