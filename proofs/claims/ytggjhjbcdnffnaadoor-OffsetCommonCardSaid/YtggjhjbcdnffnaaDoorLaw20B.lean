/- OffsetFinds: the law's walk. Condition: the table of math/bits lies where the program's text lays it. -/
import Derived.Test.YtggjhjbcdnffnaaDoorLaw20A
namespace Go.Proofs.YtggjhjbcdnffnaaDoor
open Go.RowKit

theorem findTo_off {fits : List Int → Bool} {s : Nat} {j : Nat} (hj : j < 16) (hb : s.testBit j = false) : ∀ k, (findTo fits s k)[j]? = some 0
  | 0 => by rw [findTo, farL_get s 16384 j hj, hb]; rfl
  | k + 1 => by
    rw [findTo]
    split
    · rename_i h
      have : k ≠ j := fun e => by rw [e, hb] at h; cases h
      rw [stepO, List.getElem?_set_ne this]
      exact findTo_off hj hb k
    · exact findTo_off hj hb k
theorem findTo_at {fits : List Int → Bool} {s : Nat} {q : Nat} (hq : q < 16) (hb : s.testBit q = true) (hl : (findTo fits s q).length = 16) : (findTo fits s 16)[q]? = some (leastO fits (findTo fits s q) q) := by
  have := findTo_stay (fits := fits) (s := s) q (q + 1) (by omega) (15 - q)
  rw [show q + 1 + (15 - q) = 16 by omega] at this
  rw [this, findTo, if_pos hb, stepO, List.getElem?_set_self (by omega)]
theorem edX_of {x : Img} (hx0 : (chkImg x).2 = 0) (ho : x.Ok) {k : Nat} (hk : k < x.edges.length) : ∃ f t, EdX x k f t := by
  obtain ⟨f, t, h1, hf, ht, hc, _⟩ := edge_w hx0 ho k hk
  exact ⟨f, t, h1, hc, hf, ht⟩
set_option maxRecDepth 100000 in
set_option maxHeartbeats 4000000 in
theorem offsetFinds_any (v : ImgV) (x : Img) (edge : Int) (w : World) (hTb : Tab w) (h : ImgAt w v x) :
    Calls Tryd.prog 5 #[.agg (imgCells v x).toArray, .int .i64 edge] w fun e w' => e = .returned (.bool true) ∧ Keep [] w w' := by
  have b0 := img_box w v x
  obtain ⟨W0, hW0⟩ : ∃ W0, w.alloc (.cells (imgCells v x).toArray 26) = W0 := ⟨_, rfl⟩
  rw [hW0] at b0
  have K0 : Keep [] w W0 := by rw [← hW0]; exact (Keep.refl [] w).alloc _
  have HC0 : Hid (∀ w', Keep [] W0 w' → CellsAt w' w.heap.size 0 (imgCells v x)) := fun w' hk => (b0.keep0 hk).cellsAt
  have HI1 : Hid (∀ w', Keep [] W0 w' → w'.cell? ⟨w.heap.size, 3, none⟩ = some (.slice v.ea x.edges.length v.ec)) := fun w' hk => by rw [(b0.keep0 hk).cell]; rfl
  have HIC : Hid ((imgCells v x).length = 4) := show _ = _ from rfl
  have HG := Lib.hid (great_any v x W0 (h.keep0 K0))
  have HR := fun w' hk' => Lib.hid (right_any v x w' (h.keep0 (K0.then hk')))
  have HAl := fun w' hk => Lib.hid (alive20 w' (hTb.keep0 (w' := w') hk))
  have hle63 := h.le
  unfold maxLen at hle63
  have HW := Lib.hid hW0
  have HI := Lib.hid h
  have HTB := Lib.hid hTb
  have HK0 := Lib.hid K0
  have hz16 : Hid ((iv z16).length = 16) := show _ = _ from rfl
  have hone0 : Hid (∀ u ∈ iv z16, u.oneCell' = true) := iv_one _
  have hbz : Hid (#[Value.int .i64 0, .int .i64 0, .int .i64 0, .int .i64 0, .int .i64 0, .int .i64 0, .int .i64 0, .int .i64 0, .int .i64 0, .int .i64 0, .int .i64 0, .int .i64 0, .int .i64 0, .int .i64 0, .int .i64 0, .int .i64 0] = (iv z16).toArray) := show _ = _ from rfl
  clear h hTb b0 hW0
  generalize hil : imgCells v x = il at *
  have HIL := Lib.hid hil
  clear hil
  go_enter Tryd.func5, Tryd.ntmps5
  go_wp2_with (first
    | rw [HW.out]
    | (refine wpList_load_agg rfl 26 (.tmp 2) rfl rfl (cs := il) (by rw [HIC.out]; exact agg_image) (HC0.out _ (Keep.refl _ _)) ?_))
  refine HG.out.mono ?_
  rintro e w2 ⟨rfl, k2⟩
  cases hg : greatImg x with
  | true =>
    go_wp2
    go_ret
    exact ⟨rfl, K0.then k2⟩
  | false =>
  have hc2 := Lib.hid (HC0.out w2 k2)
  go_wp2_with (refine wpList_agg_gd rfl 26 (.tmp 2) rfl rfl (cs := il) (by rw [HIC.out]; exact agg_image) hc2.out ?_)
  refine (HR _ k2).out.mono ?_
  rintro e w3 ⟨rfl, k3⟩
  have HK3 := Lib.hid (k2.then k3)
  clear k2 k3 hc2
  cases hr : ((chkImg x).2 == 0) with
  | false =>
    go_wp2
    go_ret
    exact ⟨rfl, K0.then HK3.out⟩
  | true =>
  have hx0 : (chkImg x).2 = 0 := by simpa using hr
  have hc3 := Lib.hid (HC0.out w3 HK3.out)
  clear HG HR hg hr
  by_cases hedge : edge < 0 ∨ (x.edges.length : Int) ≤ edge
  · have HFi := Lib.hid (find_out v x edge w3 (HTB.out.keep0 (K0.then HK3.out)) (HI.out.keep0 (K0.then HK3.out)) hedge)
    rw [HIL.out] at HFi
    go_wp2_with (refine wpList_load_agg rfl 26 (.tmp 2) rfl rfl (cs := il) (by rw [HIC.out]; exact agg_image) hc3.out ?_)
    refine HFi.out.mono ?_
    rintro e w4 ⟨rfl, k4⟩
    have HK4 := Lib.hid (HK3.out.then k4)
    clear k4 hc3 HFi
    go_wp2_with (refine stop_store 27 (.tmp 5) (.tmp 20) rfl ?_)
    constructor
    refine wpList_store_all rfl 27 (.tmp 5) (.tmp 20) rfl rfl rfl (vs := iv z16) (by rw [hz16.out]; exact agg_offs.2) (Blk.new _ _ _) hone0.out ?_ ?_
    · rw [hz16.out]; rfl
    intro w5 d5 k5
    have k45 : Keep [] w4 w5 := ((Keep.refl [] w4).alloc _).trans k5 (fun y hy hlt => by simp at hy; omega)
    have HK5 := Lib.hid (HK4.out.then k45)
    have D5 := Lib.hid d5
    clear k5 k45 d5
    have hF : ∀ w', Keep [] w5 w' → w'.cell? ⟨w.heap.size, 3, none⟩ = some (.slice v.ea x.edges.length v.ec) ∧ True := fun w' hk => ⟨HI1.out w' (HK5.out.then hk), trivial⟩
    have hse := fun w => offs_eql z16 z16 rfl rfl w
    have hsg := fun x y u v w => offs_guard x y u v w
    rcases hedge with he | he
    · have q0 : decide (edge < 0) = true := decide_eq_true he
      go_wp2
      refine wp_region_flow (Keep [] w5) rfl (by kernel_rfl) (Keep.refl _ _).drew ?_
      (refine fl_val (v := ?_) (by rfl) ?_ ?_; rotate_left; (intro w' hS; obtain ⟨f1,f2⟩ := hF w' hS; go_simp; with_reducible rfl); simp only [Act.put, List.setIfInBounds_toArray, List.set_cons_zero, List.set_cons_succ])
      (refine fl_val (v := ?_) (by rfl) ?_ ?_; rotate_left; (intro w' hS; obtain ⟨f1,f2⟩ := hF w' hS; go_simp; with_reducible rfl); simp only [Act.put, List.setIfInBounds_toArray, List.set_cons_zero, List.set_cons_succ])
      (refine fl_val (v := ?_) (by rfl) ?_ ?_; rotate_left; (intro w' hS; obtain ⟨f1,f2⟩ := hF w' hS; go_simp; with_reducible rfl); simp only [Act.put, List.setIfInBounds_toArray, List.set_cons_zero, List.set_cons_succ])
      (refine fl_off (by rfl) ?_; simp only [Act.put, List.setIfInBounds_toArray, List.set_cons_zero, List.set_cons_succ])
      (refine fl_off (by rfl) ?_; simp only [Act.put, List.setIfInBounds_toArray, List.set_cons_zero, List.set_cons_succ])
      (refine fl_off (by rfl) ?_; simp only [Act.put, List.setIfInBounds_toArray, List.set_cons_zero, List.set_cons_succ])
      (refine fl_off (by rfl) ?_; simp only [Act.put, List.setIfInBounds_toArray, List.set_cons_zero, List.set_cons_succ])
      (refine fl_off (by rfl) ?_; simp only [Act.put, List.setIfInBounds_toArray, List.set_cons_zero, List.set_cons_succ])
      (refine fl_val (v := ?_) (by rfl) ?_ ?_; rotate_left; (intro w' hS; obtain ⟨f1,f2⟩ := hF w' hS; go_simp; with_reducible rfl); simp only [Act.put, List.setIfInBounds_toArray, List.set_cons_zero, List.set_cons_succ])
      (refine fl_val (v := ?_) (by rfl) ?_ ?_; rotate_left; (intro w' hS; obtain ⟨f1,f2⟩ := hF w' hS; go_simp; with_reducible rfl); simp only [Act.put, List.setIfInBounds_toArray, List.set_cons_zero, List.set_cons_succ])
      (refine fl_off (by rfl) ?_; simp only [Act.put, List.setIfInBounds_toArray, List.set_cons_zero, List.set_cons_succ])
      (refine fl_off (by rfl) ?_; simp only [Act.put, List.setIfInBounds_toArray, List.set_cons_zero, List.set_cons_succ])
      (refine fl_off (by rfl) ?_; simp only [Act.put, List.setIfInBounds_toArray, List.set_cons_zero, List.set_cons_succ])
      (refine fl_off (by rfl) ?_; simp only [Act.put, List.setIfInBounds_toArray, List.set_cons_zero, List.set_cons_succ])
      (refine fl_off (by rfl) ?_; simp only [Act.put, List.setIfInBounds_toArray, List.set_cons_zero, List.set_cons_succ])
      (refine fl_off (by rfl) ?_; simp only [Act.put, List.setIfInBounds_toArray, List.set_cons_zero, List.set_cons_succ])
      (refine fl_off (by rfl) ?_; simp only [Act.put, List.setIfInBounds_toArray, List.set_cons_zero, List.set_cons_succ])
      (refine fl_val (v := ?_) (by rfl) ?_ ?_; rotate_left; (intro w' hS; obtain ⟨f1,f2⟩ := hF w' hS; go_simp; with_reducible rfl); simp only [Act.put, List.setIfInBounds_toArray, List.set_cons_zero, List.set_cons_succ])
      refine fl_nil ?_
      intro w6 hS
      have HK6 := Lib.hid (HK5.out.then hS)
      have hcA := Lib.hid (D5.out.keep0 hS).cellsAt
      have HALm := HAl w6 (K0.then HK6.out)
      clear hS hF
      go_wp2_with (first
        | (refine wpList_agg_gd rfl 27 (.tmp 5) rfl rfl (cs := iv z16) (by rw [hz16.out]; exact agg_offs) hcA.out ?_)
        | rw [hbz.out])
      refine HALm.out.mono ?_
      rintro e wl ⟨rfl, kl⟩
      go_wp2
      go_ret
      exact ⟨rfl, (K0.then HK6.out).then kl⟩
    · have q0 : decide (edge < 0) = false := decide_eq_false (by omega)
      have q1 : decide ((x.edges.length : Int) ≤ edge) = true := decide_eq_true he
      go_wp2
      refine wp_region_flow (Keep [] w5) rfl (by kernel_rfl) (Keep.refl _ _).drew ?_
      (refine fl_val (v := ?_) (by rfl) ?_ ?_; rotate_left; (intro w' hS; obtain ⟨f1,f2⟩ := hF w' hS; go_simp; with_reducible rfl); simp only [Act.put, List.setIfInBounds_toArray, List.set_cons_zero, List.set_cons_succ])
      (refine fl_val (v := ?_) (by rfl) ?_ ?_; rotate_left; (intro w' hS; obtain ⟨f1,f2⟩ := hF w' hS; go_simp; with_reducible rfl); simp only [Act.put, List.setIfInBounds_toArray, List.set_cons_zero, List.set_cons_succ])
      (refine fl_val (v := ?_) (by rfl) ?_ ?_; rotate_left; (intro w' hS; obtain ⟨f1,f2⟩ := hF w' hS; go_simp; with_reducible rfl); simp only [Act.put, List.setIfInBounds_toArray, List.set_cons_zero, List.set_cons_succ])
      (refine fl_val (v := ?_) (by rfl) ?_ ?_; rotate_left; (intro w' hS; obtain ⟨f1,f2⟩ := hF w' hS; go_simp; with_reducible rfl); simp only [Act.put, List.setIfInBounds_toArray, List.set_cons_zero, List.set_cons_succ])
      (refine fl_val (v := ?_) (by rfl) ?_ ?_; rotate_left; (intro w' hS; obtain ⟨f1,f2⟩ := hF w' hS; go_simp; with_reducible rfl); simp only [Act.put, List.setIfInBounds_toArray, List.set_cons_zero, List.set_cons_succ])
      (refine fl_val (v := ?_) (by rfl) ?_ ?_; rotate_left; (intro w' hS; obtain ⟨f1,f2⟩ := hF w' hS; go_simp; with_reducible rfl); simp only [Act.put, List.setIfInBounds_toArray, List.set_cons_zero, List.set_cons_succ])
      (refine fl_val (v := ?_) (by rfl) ?_ ?_; rotate_left; (intro w' hS; obtain ⟨f1,f2⟩ := hF w' hS; go_simp; with_reducible rfl); simp only [Act.put, List.setIfInBounds_toArray, List.set_cons_zero, List.set_cons_succ])
      (refine fl_val (v := ?_) (by rfl) ?_ ?_; rotate_left; (intro w' hS; obtain ⟨f1,f2⟩ := hF w' hS; go_simp; with_reducible rfl); simp only [Act.put, List.setIfInBounds_toArray, List.set_cons_zero, List.set_cons_succ])
      (refine fl_val (v := ?_) (by rfl) ?_ ?_; rotate_left; (intro w' hS; obtain ⟨f1,f2⟩ := hF w' hS; go_simp; with_reducible rfl); simp only [Act.put, List.setIfInBounds_toArray, List.set_cons_zero, List.set_cons_succ])
      (refine fl_val (v := ?_) (by rfl) ?_ ?_; rotate_left; (intro w' hS; obtain ⟨f1,f2⟩ := hF w' hS; go_simp; with_reducible rfl); simp only [Act.put, List.setIfInBounds_toArray, List.set_cons_zero, List.set_cons_succ])
      (refine fl_off (by rfl) ?_; simp only [Act.put, List.setIfInBounds_toArray, List.set_cons_zero, List.set_cons_succ])
      (refine fl_off (by rfl) ?_; simp only [Act.put, List.setIfInBounds_toArray, List.set_cons_zero, List.set_cons_succ])
      (refine fl_off (by rfl) ?_; simp only [Act.put, List.setIfInBounds_toArray, List.set_cons_zero, List.set_cons_succ])
      (refine fl_off (by rfl) ?_; simp only [Act.put, List.setIfInBounds_toArray, List.set_cons_zero, List.set_cons_succ])
      (refine fl_off (by rfl) ?_; simp only [Act.put, List.setIfInBounds_toArray, List.set_cons_zero, List.set_cons_succ])
      (refine fl_off (by rfl) ?_; simp only [Act.put, List.setIfInBounds_toArray, List.set_cons_zero, List.set_cons_succ])
      (refine fl_off (by rfl) ?_; simp only [Act.put, List.setIfInBounds_toArray, List.set_cons_zero, List.set_cons_succ])
      (refine fl_val (v := ?_) (by rfl) ?_ ?_; rotate_left; (intro w' hS; obtain ⟨f1,f2⟩ := hF w' hS; go_simp; with_reducible rfl); simp only [Act.put, List.setIfInBounds_toArray, List.set_cons_zero, List.set_cons_succ])
      refine fl_nil ?_
      intro w6 hS
      have HK6 := Lib.hid (HK5.out.then hS)
      have hcA := Lib.hid (D5.out.keep0 hS).cellsAt
      have HALm := HAl w6 (K0.then HK6.out)
      clear hS hF
      go_wp2_with (first
        | (refine wpList_agg_gd rfl 27 (.tmp 5) rfl rfl (cs := iv z16) (by rw [hz16.out]; exact agg_offs) hcA.out ?_)
        | rw [hbz.out])
      refine HALm.out.mono ?_
      rintro e wl ⟨rfl, kl⟩
      go_wp2
      go_ret
      exact ⟨rfl, (K0.then HK6.out).then kl⟩
  · obtain ⟨k, rfl⟩ : ∃ k : Nat, edge = (k : Int) := ⟨edge.toNat, by omega⟩
    have hk : k < x.edges.length := by omega
    obtain ⟨f, t, hX⟩ := edX_of hx0 HI.out.ok hk
    have hE := edW_of hx0 HI.out.ok hk
    have HFi := Lib.hid (find_any v x k w3 (HTB.out.keep0 (K0.then HK3.out)) (HI.out.keep0 (K0.then HK3.out)) hE)
    have HAll := fun w' hk => Lib.hid (all20_any v x k f t 16384 w' (HI.out.keep0 (w' := w') hk) hX)
    have HFt := fun (N : List Int) (hN : OffOk N) w' hk => Lib.hid (fits20_any v x k N w' (HTB.out.keep0 (w' := w') hk) (HI.out.keep0 hk) hE hN)
    have HFr := fun (i : Nat) (hi : i < 16) w' hk => Lib.hid (fresh_any v x k f t i w' (HI.out.keep0 (w' := w') hk) hX hi)
    have hFR : findR x k = if fitsB x k (farL (clsE x k).new 16384) = true then findTo (fitsB x k) (clsE x k).new 16 else z16 := rfl
    have hBK : findB x k = fitsB x k (farL (clsE x k).new 16384) := rfl
    have hflo := farL_ok (clsE x k).new (z := 16384) (by omega)
    have hfl := hflo
    rw [HIL.out] at HFi HAll HFt HFr
    have q0 : decide ((k : Int) < 0) = false := decide_eq_false (by omega)
    have q1 : decide ((x.edges.length : Int) ≤ (k : Int)) = false := decide_eq_false (by omega)
    have q1n : decide (x.edges.length ≤ k) = false := decide_eq_false (by omega)
    clear hX hE hx0 hedge
    generalize (clsE x k).new = nw at *
    generalize fitsB x k = P at *
    generalize findR x k = fr at *
    generalize findB x k = fb at *
    have hfrl : fr.length = 16 := by
      rw [hFR]
      split
      · rename_i hh
        exact (findTo_ok hh 16).1.1
      · rfl
    have HFRL : Hid ((iv fr).length = 16) := by show _ = _; rw [iv_len]; exact hfrl
    have HFR0 := Lib.hid hFR
    have HBK0 := Lib.hid hBK
    clear hFR hBK
    have hone : Hid (∀ u ∈ iv fr, u.oneCell' = true) := iv_one _
    go_wp2_with (refine wpList_load_agg rfl 26 (.tmp 2) rfl rfl (cs := il) (by rw [HIC.out]; exact agg_image) hc3.out ?_)
    refine HFi.out.mono ?_
    rintro e w4 ⟨rfl, k4⟩
    have HK4 := Lib.hid (HK3.out.then k4)
    clear k4 hc3 HFi
    go_wp2_with (refine stop_store 27 (.tmp 5) (.tmp 20) rfl ?_)
    constructor
    refine wpList_store_all rfl 27 (.tmp 5) (.tmp 20) rfl rfl rfl (vs := iv fr) (by rw [HFRL.out]; exact agg_offs.2) (Blk.new _ _ _) hone.out ?_ ?_
    · rw [HFRL.out]; rfl
    intro w5 d5 k5
    have k45 : Keep [] w4 w5 := ((Keep.refl [] w4).alloc _).trans k5 (fun y hy hlt => by simp at hy; omega)
    have HK5 := Lib.hid (HK4.out.then k45)
    have D5 := Lib.hid d5
    clear k5 k45 d5
    have hF : ∀ w', Keep [] w5 w' → w'.cell? ⟨w.heap.size, 3, none⟩ = some (.slice v.ea x.edges.length v.ec) ∧ True := fun w' hk => ⟨HI1.out w' (HK5.out.then hk), trivial⟩
    have hCA : ∀ w', Keep [] w5 w' → CellsAt w' w.heap.size 0 il := fun w' hk => HC0.out w' (HK5.out.then hk)
    have HKX : ∀ w', Keep [] w5 w' → Keep [] w w' := fun w' hk => (K0.then HK5.out).then hk
    cases hfb : P (farL nw 16384) with
    | false =>
      have hFR := HFR0.out
      have hBK := HBK0.out
      clear HFR0 HBK0
      rw [hfb, if_neg (by simp)] at hFR
      rw [hfb] at hBK
      subst hFR hBK
      have hse := fun w => offs_eql z16 z16 rfl rfl w
      have hsg := fun x y u v w => offs_guard x y u v w
      go_wp2
      refine wp_region_flow (Keep [] w5) rfl (by kernel_rfl) (Keep.refl _ _).drew ?_
      (refine fl_val (v := ?_) (by rfl) ?_ ?_; rotate_left; (intro w' hS; obtain ⟨f1,f2⟩ := hF w' hS; go_simp; with_reducible rfl); simp only [Act.put, List.setIfInBounds_toArray, List.set_cons_zero, List.set_cons_succ])
      (refine fl_val (v := ?_) (by rfl) ?_ ?_; rotate_left; (intro w' hS; obtain ⟨f1,f2⟩ := hF w' hS; go_simp; with_reducible rfl); simp only [Act.put, List.setIfInBounds_toArray, List.set_cons_zero, List.set_cons_succ])
      (refine fl_val (v := ?_) (by rfl) ?_ ?_; rotate_left; (intro w' hS; obtain ⟨f1,f2⟩ := hF w' hS; go_simp; with_reducible rfl); simp only [Act.put, List.setIfInBounds_toArray, List.set_cons_zero, List.set_cons_succ])
      (refine fl_val (v := ?_) (by rfl) ?_ ?_; rotate_left; (intro w' hS; obtain ⟨f1,f2⟩ := hF w' hS; go_simp; with_reducible rfl); simp only [Act.put, List.setIfInBounds_toArray, List.set_cons_zero, List.set_cons_succ])
      (refine fl_val (v := ?_) (by rfl) ?_ ?_; rotate_left; (intro w' hS; obtain ⟨f1,f2⟩ := hF w' hS; go_simp; with_reducible rfl); simp only [Act.put, List.setIfInBounds_toArray, List.set_cons_zero, List.set_cons_succ])
      (refine fl_val (v := ?_) (by rfl) ?_ ?_; rotate_left; (intro w' hS; obtain ⟨f1,f2⟩ := hF w' hS; go_simp; with_reducible rfl); simp only [Act.put, List.setIfInBounds_toArray, List.set_cons_zero, List.set_cons_succ])
      (refine fl_val (v := ?_) (by rfl) ?_ ?_; rotate_left; (intro w' hS; obtain ⟨f1,f2⟩ := hF w' hS; go_simp; with_reducible rfl); simp only [Act.put, List.setIfInBounds_toArray, List.set_cons_zero, List.set_cons_succ])
      (refine fl_val (v := ?_) (by rfl) ?_ ?_; rotate_left; (intro w' hS; obtain ⟨f1,f2⟩ := hF w' hS; go_simp; with_reducible rfl); simp only [Act.put, List.setIfInBounds_toArray, List.set_cons_zero, List.set_cons_succ])
      (refine fl_val (v := ?_) (by rfl) ?_ ?_; rotate_left; (intro w' hS; obtain ⟨f1,f2⟩ := hF w' hS; go_simp; with_reducible rfl); simp only [Act.put, List.setIfInBounds_toArray, List.set_cons_zero, List.set_cons_succ])
      (refine fl_val (v := ?_) (by rfl) ?_ ?_; rotate_left; (intro w' hS; obtain ⟨f1,f2⟩ := hF w' hS; go_simp; with_reducible rfl); simp only [Act.put, List.setIfInBounds_toArray, List.set_cons_zero, List.set_cons_succ])
      refine fl_agg 26 (.tmp 2) il rfl rfl rfl (by rw [HIC.out]; exact agg_image) hCA ?_
      simp only [Act.put, List.setIfInBounds_toArray, List.set_cons_zero, List.set_cons_succ]
      (refine fl_val (v := ?_) (by rfl) ?_ ?_; rotate_left; (intro w' hS; obtain ⟨f1,f2⟩ := hF w' hS; go_simp; with_reducible rfl); simp only [Act.put, List.setIfInBounds_toArray, List.set_cons_zero, List.set_cons_succ])
      refine fl_agg 26 (.tmp 2) il rfl rfl rfl (by rw [HIC.out]; exact agg_image) hCA ?_
      simp only [Act.put, List.setIfInBounds_toArray, List.set_cons_zero, List.set_cons_succ]
      (refine fl_val (v := ?_) (by rfl) ?_ ?_; rotate_left; (intro w' hS; obtain ⟨f1,f2⟩ := hF w' hS; go_simp; with_reducible rfl); simp only [Act.put, List.setIfInBounds_toArray, List.set_cons_zero, List.set_cons_succ])
      refine fl_call (f := 25) (v := .agg (iv (farL nw 16384)).toArray) (by rfl) rfl (by simp only [List.map_toArray, List.map_cons, List.map_nil]; rfl) Tryd.func25 (by kernel_rfl) (by kernel_rfl) (fun w' hS => ((HAll w' (HKX w' hS)).out.mono (fun e w'' h => ⟨h.1, hS.then h.2⟩))) ?_; simp only [Act.put, List.setIfInBounds_toArray, List.set_cons_zero, List.set_cons_succ]
      refine fl_call (f := 24) (v := .bool false) (by rfl) rfl (by simp only [List.map_toArray, List.map_cons, List.map_nil]; rfl) Tryd.func24 (by kernel_rfl) (by kernel_rfl) (fun w' hS => ((HFt (farL nw 16384) hflo w' (HKX w' hS)).out.mono (fun e w'' h => ⟨by rw [h.1, hfb], hS.then h.2⟩))) ?_; simp only [Act.put, List.setIfInBounds_toArray, List.set_cons_zero, List.set_cons_succ]
      (refine fl_val (v := ?_) (by rfl) ?_ ?_; rotate_left; (intro w' hS; obtain ⟨f1,f2⟩ := hF w' hS; go_simp; with_reducible rfl); simp only [Act.put, List.setIfInBounds_toArray, List.set_cons_zero, List.set_cons_succ])
      (refine fl_val (v := ?_) (by rfl) ?_ ?_; rotate_left; (intro w' hS; obtain ⟨f1,f2⟩ := hF w' hS; go_simp; with_reducible rfl); simp only [Act.put, List.setIfInBounds_toArray, List.set_cons_zero, List.set_cons_succ])
      refine fl_nil ?_
      intro w6 hS
      have HK6 := Lib.hid (HK5.out.then hS)
      have hcA := Lib.hid (D5.out.keep0 hS).cellsAt
      have HALm := HAl w6 (K0.then HK6.out)
      clear hS hF hCA HKX HAll HFt HFr
      go_wp2_with (first
        | (refine wpList_agg_gd rfl 27 (.tmp 5) rfl rfl (cs := iv z16) (by rw [hz16.out]; exact agg_offs) hcA.out ?_)
        | rw [hbz.out])
      refine HALm.out.mono ?_
      rintro e wl ⟨rfl, kl⟩
      go_wp2
      go_ret
      exact ⟨rfl, (K0.then HK6.out).then kl⟩
    | true =>
      have hFR := HFR0.out
      have hBK := HBK0.out
      clear HFR0 HBK0
      rw [hfb, if_pos rfl] at hFR
      rw [hfb] at hBK
      subst hBK
      have hok16 := findTo_ok (fits := P) (s := nw) hfb 16
      rw [← hFR] at hok16
      have HFR := Lib.hid hFR
      clear hFR
      go_wp2
      refine wp_region_flow (Keep [] w5) rfl (by kernel_rfl) (Keep.refl _ _).drew ?_
      (refine fl_val (v := ?_) (by rfl) ?_ ?_; rotate_left; (intro w' hS; obtain ⟨f1,f2⟩ := hF w' hS; go_simp; with_reducible rfl); simp only [Act.put, List.setIfInBounds_toArray, List.set_cons_zero, List.set_cons_succ])
      (refine fl_val (v := ?_) (by rfl) ?_ ?_; rotate_left; (intro w' hS; obtain ⟨f1,f2⟩ := hF w' hS; go_simp; with_reducible rfl); simp only [Act.put, List.setIfInBounds_toArray, List.set_cons_zero, List.set_cons_succ])
      (refine fl_val (v := ?_) (by rfl) ?_ ?_; rotate_left; (intro w' hS; obtain ⟨f1,f2⟩ := hF w' hS; go_simp; with_reducible rfl); simp only [Act.put, List.setIfInBounds_toArray, List.set_cons_zero, List.set_cons_succ])
      (refine fl_val (v := ?_) (by rfl) ?_ ?_; rotate_left; (intro w' hS; obtain ⟨f1,f2⟩ := hF w' hS; go_simp; with_reducible rfl); simp only [Act.put, List.setIfInBounds_toArray, List.set_cons_zero, List.set_cons_succ])
      (refine fl_val (v := ?_) (by rfl) ?_ ?_; rotate_left; (intro w' hS; obtain ⟨f1,f2⟩ := hF w' hS; go_simp; with_reducible rfl); simp only [Act.put, List.setIfInBounds_toArray, List.set_cons_zero, List.set_cons_succ])
      (refine fl_val (v := ?_) (by rfl) ?_ ?_; rotate_left; (intro w' hS; obtain ⟨f1,f2⟩ := hF w' hS; go_simp; with_reducible rfl); simp only [Act.put, List.setIfInBounds_toArray, List.set_cons_zero, List.set_cons_succ])
      (refine fl_val (v := ?_) (by rfl) ?_ ?_; rotate_left; (intro w' hS; obtain ⟨f1,f2⟩ := hF w' hS; go_simp; with_reducible rfl); simp only [Act.put, List.setIfInBounds_toArray, List.set_cons_zero, List.set_cons_succ])
      (refine fl_val (v := ?_) (by rfl) ?_ ?_; rotate_left; (intro w' hS; obtain ⟨f1,f2⟩ := hF w' hS; go_simp; with_reducible rfl); simp only [Act.put, List.setIfInBounds_toArray, List.set_cons_zero, List.set_cons_succ])
      (refine fl_val (v := ?_) (by rfl) ?_ ?_; rotate_left; (intro w' hS; obtain ⟨f1,f2⟩ := hF w' hS; go_simp; with_reducible rfl); simp only [Act.put, List.setIfInBounds_toArray, List.set_cons_zero, List.set_cons_succ])
      (refine fl_val (v := ?_) (by rfl) ?_ ?_; rotate_left; (intro w' hS; obtain ⟨f1,f2⟩ := hF w' hS; go_simp; with_reducible rfl); simp only [Act.put, List.setIfInBounds_toArray, List.set_cons_zero, List.set_cons_succ])
      refine fl_agg 26 (.tmp 2) il rfl rfl rfl (by rw [HIC.out]; exact agg_image) hCA ?_
      simp only [Act.put, List.setIfInBounds_toArray, List.set_cons_zero, List.set_cons_succ]
      (refine fl_val (v := ?_) (by rfl) ?_ ?_; rotate_left; (intro w' hS; obtain ⟨f1,f2⟩ := hF w' hS; go_simp; with_reducible rfl); simp only [Act.put, List.setIfInBounds_toArray, List.set_cons_zero, List.set_cons_succ])
      refine fl_agg 26 (.tmp 2) il rfl rfl rfl (by rw [HIC.out]; exact agg_image) hCA ?_
      simp only [Act.put, List.setIfInBounds_toArray, List.set_cons_zero, List.set_cons_succ]
      (refine fl_val (v := ?_) (by rfl) ?_ ?_; rotate_left; (intro w' hS; obtain ⟨f1,f2⟩ := hF w' hS; go_simp; with_reducible rfl); simp only [Act.put, List.setIfInBounds_toArray, List.set_cons_zero, List.set_cons_succ])
      refine fl_call (f := 25) (v := .agg (iv (farL nw 16384)).toArray) (by rfl) rfl (by simp only [List.map_toArray, List.map_cons, List.map_nil]; rfl) Tryd.func25 (by kernel_rfl) (by kernel_rfl) (fun w' hS => ((HAll w' (HKX w' hS)).out.mono (fun e w'' h => ⟨h.1, hS.then h.2⟩))) ?_; simp only [Act.put, List.setIfInBounds_toArray, List.set_cons_zero, List.set_cons_succ]
      refine fl_call (f := 24) (v := .bool true) (by rfl) rfl (by simp only [List.map_toArray, List.map_cons, List.map_nil]; rfl) Tryd.func24 (by kernel_rfl) (by kernel_rfl) (fun w' hS => ((HFt (farL nw 16384) hflo w' (HKX w' hS)).out.mono (fun e w'' h => ⟨by rw [h.1, hfb], hS.then h.2⟩))) ?_; simp only [Act.put, List.setIfInBounds_toArray, List.set_cons_zero, List.set_cons_succ]
      (refine fl_val (v := ?_) (by rfl) ?_ ?_; rotate_left; (intro w' hS; obtain ⟨f1,f2⟩ := hF w' hS; go_simp; with_reducible rfl); simp only [Act.put, List.setIfInBounds_toArray, List.set_cons_zero, List.set_cons_succ])
      (refine fl_val (v := ?_) (by rfl) ?_ ?_; rotate_left; (intro w' hS; obtain ⟨f1,f2⟩ := hF w' hS; go_simp; with_reducible rfl); simp only [Act.put, List.setIfInBounds_toArray, List.set_cons_zero, List.set_cons_succ])
      refine fl_nil ?_
      intro w6 hS
      have HS6 := Lib.hid hS
      have hcA := Lib.hid (D5.out.keep0 hS).cellsAt
      have hcI := Lib.hid (hCA w6 hS)
      have HFf := HFt fr hok16.1 w6 (HKX w6 hS)
      rw [hok16.2] at HFf
      clear hS hF
      go_wp2_with (first
        | (refine wpList_agg_gd rfl 27 (.tmp 5) rfl rfl (cs := iv fr) (by rw [HFRL.out]; exact agg_offs) hcA.out ?_)
        | (refine wpList_agg_gd rfl 26 (.tmp 2) rfl rfl (cs := il) (by rw [HIC.out]; exact agg_image) hcI.out ?_))
      refine HFf.out.mono ?_
      rintro e w7 ⟨rfl, k7⟩
      have HS7 := Lib.hid (HS6.out.then k7)
      have hcI7 := Lib.hid (hCA w7 HS7.out)
      have HAl7 := HAll w7 (HKX w7 HS7.out)
      clear k7 hcA hcI HFf HAll
      go_wp2_with (refine wpList_load_agg rfl 26 (.tmp 2) rfl rfl (cs := il) (by rw [HIC.out]; exact agg_image) hcI7.out ?_)
      refine HAl7.out.mono ?_
      rintro e w8 ⟨rfl, k8⟩
      have HS8 := Lib.hid (HS7.out.then k8)
      have HFLL : Hid ((iv (farL nw 16384)).length = 16) := by show _ = _; rw [iv_len]; exact hfl.1
      have honef : Hid (∀ u ∈ iv (farL nw 16384), u.oneCell' = true) := iv_one _
      clear k8 hcI7 HAl7
      go_wp2_with (refine stop_store 27 (.tmp 7) (.tmp 61) rfl ?_)
      constructor
      refine wpList_store_all rfl 27 (.tmp 7) (.tmp 61) rfl rfl rfl (vs := iv (farL nw 16384)) (by rw [HFLL.out]; exact agg_offs.2) (Blk.new _ _ _) honef.out ?_ ?_
      · rw [HFLL.out]; rfl
      intro w9 d9 k9
      have k89 : Keep [] w8 w9 := ((Keep.refl [] w8).alloc _).trans k9 (fun y hy hlt => by simp at hy; omega)
      have HS9 := Lib.hid (HS8.out.then k89)
      have D9 := Lib.hid d9
      have hg5 := D5.out.lt
      have hz85 := HS8.out.size
      have HNE : Hid (w4.heap.size ≠ w8.heap.size) := by show _ ≠ _; omega
      have HG7 : Hid (∀ w', Keep [w8.heap.size] w9 w' → Keep [] w5 w') := fun w' hk => HS9.out.trans hk (fun y hy hlt => by simp at hy; omega)
      clear k9 k89 d9 hz85 hg5 HFLL honef
      go_wp2
      go_loopw [8] (fun i wr => ∃ q : Nat, q ≤ 16 ∧ i = .int .i64 q ∧ Blk wr w8.heap.size 27 (iv (findTo P nw q)).toArray ∧ Keep [w8.heap.size] w9 wr) (fun i _ => 16 - (intOf i).toNat)
      case atStart => exact ⟨0, Nat.zero_le _, rfl, D9.out, Keep.refl _ _⟩
      case round =>
        obtain ⟨q, hq, rfl, hb, hK⟩ := hrel
        by_cases hlt : q < 16
        · have p0 : (0 : Int) ≤ (q : Int) := by omega
          have p1 : (q : Int) < 16 := by omega
          have p2 : decide ((q : Int) < 16) = true := decide_eq_true p1
          have hokq := findTo_ok (fits := P) (s := nw) hfb q
          have HFq := HFr q hlt wr (HKX _ (HG7.out _ hK))
          have hcI := Lib.hid (hCA wr (HG7.out _ hK))
          have hc5 : ∀ w', Keep [w8.heap.size] w9 w' → ∀ z, fr[q]? = some z → w'.cell? ⟨w4.heap.size, q, none⟩ = some (.int .i64 z) := fun w' hk z hz => (D5.out.keep0 (HG7.out _ hk)).at_ (by unfold iv; rw [List.getElem?_map, hz]; rfl)
          have HB := Lib.hid hb
          have HK := Lib.hid hK
          clear hb hK
          cases hbt : nw.testBit q with
          | false =>
            rw [hbt] at HFq
            have hoff := findTo_off (fits := P) hlt hbt 16
            rw [← HFR.out] at hoff
            have hs : Hid (findTo P nw (q + 1) = findTo P nw q) := by show _ = _; rw [findTo, if_neg (by rw [hbt]; simp)]
            go_wp2_with (refine wpList_load_agg rfl 26 (.tmp 2) rfl rfl (cs := il) (by rw [HIC.out]; exact agg_image) hcI.out ?_)
            refine HFq.out.mono ?_
            rintro e wa ⟨rfl, ka⟩
            have HB2 := Lib.hid (HB.out.keep0 ka)
            have HK2 := Lib.hid (HK.out.then ka)
            have cz := hc5 wa HK2.out 0 hoff
            clear ka hc5 hcI HFq
            go_wp2
            go_roundw
            case rel => exact ⟨q + 1, by omega, by go_num, by rw [hs.out]; exact HB2.out, HK2.out⟩
            case measure => simp [intOf] <;> omega
          | true =>
            rw [hbt] at HFq
            have hat := findTo_at (fits := P) hlt hbt hokq.1.1
            rw [← HFR.out] at hat
            obtain ⟨s1, s2, s3⟩ := leastO_spec hokq.1 hokq.2 q
            have hs : Hid (findTo P nw (q + 1) = (findTo P nw q).set q (leastO P (findTo P nw q) q)) := by show _ = _; rw [findTo, if_pos hbt]; rfl
            have s2' : P (findTo P nw (q + 1)) = true := by rw [hs.out]; exact s2
            have hokn := findTo_ok (fits := P) (s := nw) hfb (q + 1)
            have hlenq := hokq.1.1
            have hdn : ∀ z, 0 < z → z ≤ 16384 → OffOk ((findTo P nw q).set q (z - 1)) := fun z h0 h1 => hokq.1.set q (by omega)
            have hgq := hokq.1.get q
            have hgc : (findTo P nw q)[q]? = some ((findTo P nw q).getD q 0) := by rw [List.getD_eq_getElem?_getD, List.getElem?_eq_getElem (by omega)]; rfl
            clear hokq s2
            generalize hzl : leastO P (findTo P nw q) q = z at *
            go_wp2_with (refine wpList_load_agg rfl 26 (.tmp 2) rfl rfl (cs := il) (by rw [HIC.out]; exact agg_image) hcI.out ?_)
            refine HFq.out.mono ?_
            rintro e wa ⟨rfl, ka⟩
            have HB2 := Lib.hid (HB.out.keep0 ka)
            have HK2 := Lib.hid (HK.out.then ka)
            have cz := hc5 wa HK2.out z hat
            have cm := HB2.out.at_ (j := q) (u := .int .i64 ((findTo P nw q).getD q 0)) (by unfold iv; rw [List.getElem?_map, hgc]; rfl)
            have cf := HB2.out.frozen q
            clear ka hcI HFq
            go_wp2_with (refine stop_at 80 rfl ?_)
            constructor
            have bb := HB2.out.set_ q (.int .i64 z)
            rw [iv_set, ← hs.out] at bb
            have kk := HK2.out.setCell (p := ⟨w8.heap.size, q, none⟩) (by simp) (.int .i64 z)
            generalize World.setCell wa ⟨w8.heap.size, q, none⟩ (.int .i64 z) = wb at *
            have HBB := Lib.hid bb
            have HKB := Lib.hid kk
            have hcIb := Lib.hid (hCA wb (HG7.out _ kk))
            have hcLb := Lib.hid bb.cellsAt
            have HFb := HFt _ hokn.1 wb (HKX _ (HG7.out _ kk))
            rw [s2'] at HFb
            have HNL : Hid ((iv (findTo P nw (q + 1))).length = 16) := by show _ = _; rw [iv_len]; exact hokn.1.1
            clear bb kk cz cm cf
            refine wpList_load_agg rfl 26 (.tmp 2) rfl rfl (cs := il) (by rw [HIC.out]; exact agg_image) hcIb.out ?_
            go_wp2_with (refine wpList_load_agg rfl 27 (.tmp 7) rfl rfl (cs := iv (findTo P nw (q + 1))) (by rw [HNL.out]; exact agg_offs) hcLb.out ?_)
            refine HFb.out.mono ?_
            rintro e wc ⟨rfl, kc⟩
            have HBC := Lib.hid (HBB.out.keep0 kc)
            have HKC := Lib.hid (HKB.out.then kc)
            have cz := hc5 wc HKC.out z hat
            clear kc hcIb hcLb HFb
            rcases Int.lt_or_le 0 z with h0 | h0
            · have r0 : decide (0 < z) = true := decide_eq_true h0
              have hne : (findTo P nw (q + 1)).set q (z - 1) = (findTo P nw q).set q (z - 1) := by rw [hs.out, set_set]
              have hback : ((findTo P nw q).set q (z - 1)).set q z = findTo P nw (q + 1) := by rw [set_set, hs.out]
              have hPf : P ((findTo P nw q).set q (z - 1)) = false := by
                rcases s3 with h1 | h1
                · omega
                · exact h1
              have hokd := hdn z h0 s1.2
              have cm := HBC.out.at_ (j := q) (u := .int .i64 z) (by unfold iv; rw [List.getElem?_map, hs.out, List.getElem?_set_self (by omega)]; rfl)
              have cf := HBC.out.frozen q
              have hw1 : IntKind.i64.wrap (z - 1) = z - 1 := IntWalk.i64_in _ (by omega)
              go_wp2_with (refine stop_at 94 rfl ?_)
              constructor
              have bb := HBC.out.set_ q (.int .i64 (z - 1))
              rw [iv_set, hne] at bb
              have kk := HKC.out.setCell (p := ⟨w8.heap.size, q, none⟩) (by simp) (.int .i64 (z - 1))
              generalize World.setCell wc ⟨w8.heap.size, q, none⟩ (.int .i64 (z - 1)) = wd at *
              have HBD := Lib.hid bb
              have HKD := Lib.hid kk
              have hcId := Lib.hid (hCA wd (HG7.out _ kk))
              have hcLd := Lib.hid bb.cellsAt
              have HFd := HFt _ hokd wd (HKX _ (HG7.out _ kk))
              rw [hPf] at HFd
              have HNM : Hid ((iv ((findTo P nw q).set q (z - 1))).length = 16) := by show _ = _; rw [iv_len, List.length_set]; exact hlenq
              clear bb kk cz cm cf
              generalize hlm : iv ((findTo P nw q).set q (z - 1)) = lm at *
              have HLM := Lib.hid hlm
              clear hlm
              refine wpList_load_agg rfl 26 (.tmp 2) rfl rfl (cs := il) (by rw [HIC.out]; exact agg_image) hcId.out ?_
              go_wp2_with (refine wpList_load_agg rfl 27 (.tmp 7) rfl rfl (cs := lm) (by rw [HNM.out]; exact agg_offs) hcLd.out ?_)
              refine HFd.out.mono ?_
              rintro e we ⟨rfl, ke⟩
              have HBE := Lib.hid (HBD.out.keep0 ke)
              have HKE := Lib.hid (HKD.out.then ke)
              have cm := HBE.out.at_ (j := q) (u := .int .i64 (z - 1)) (by rw [← HLM.out]; unfold iv; rw [List.getElem?_map, List.getElem?_set_self (by omega)]; rfl)
              have cf := HBE.out.frozen q
              have hw2 : IntKind.i64.wrap (z - 1 + 1) = z := by rw [Int.sub_add_cancel]; exact IntWalk.i64_in _ (by omega)
              clear ke hcId hcLd HFd hw1
              go_wp2
              have bb := HBE.out.set_ q (.int .i64 z)
              rw [← HLM.out, iv_set, hback] at bb
              have kk := HKE.out.setCell (p := ⟨w8.heap.size, q, none⟩) (by simp) (.int .i64 z)
              go_roundw
              case rel => exact ⟨q + 1, by omega, by go_num, bb, kk⟩
              case measure => simp [intOf] <;> omega
            · have r0 : decide (0 < z) = false := decide_eq_false (by omega)
              go_wp2
              go_roundw
              case rel => exact ⟨q + 1, by omega, by go_num, HBC.out, HKC.out⟩
              case measure => simp [intOf] <;> omega
        · obtain rfl : q = 16 := by omega
          have HALm := HAl wr (HKX _ (HG7.out _ hK))
          have HKE := Lib.hid (HKX _ (HG7.out _ hK))
          clear hb hK
          go_wp2_with fail
          refine HALm.out.mono ?_
          rintro e wl ⟨rfl, kl⟩
          go_wp2
          go_ret
          exact ⟨rfl, HKE.out.then kl⟩
end Go.Proofs.YtggjhjbcdnffnaaDoor
