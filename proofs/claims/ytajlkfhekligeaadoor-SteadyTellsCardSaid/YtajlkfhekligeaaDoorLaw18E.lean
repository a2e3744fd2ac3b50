/- SteadyTells: the law's walk. Condition: the table of math/bits lies where the program's text lays it. -/
import Derived.Test.YtajlkfhekligeaaDoorLaw18A
import Derived.Test.YtajlkfhekligeaaDoorLaw18D
namespace Go.Proofs.YtajlkfhekligeaaDoor
open Go.RowKit

theorem pI_int18 (d : Nat) : PartI Tryd.prog 3 1 (d + 1) := partI_int Tryd.underlying3
theorem eqI_row (d : Nat) : EqI Tryd.prog 36 3 (d + 2) :=
  eqI_struct Tryd.underlying36 (by kernel_rfl) ⟨by decide, rfl, 1, pI_int18 _, by decide, rfl, 1, pI_int18 _, by decide, rfl, 1, pI_int18 _, rfl⟩
theorem row_neq (a b c : Int) (w : World) : (binOp .neq 36 (.agg #[.int .i64 a, .int .i64 b, .int .i64 c]) (.agg #[.int .i64 a, .int .i64 b, .int .i64 c])).run Tryd.prog w = .ok (.bool false) w := by
  have := run_neq_I (eqI_row 9998) [a, b, c] [a, b, c] rfl rfl w
  simpa using this
theorem row_guard (x y : Operand) (u v : Array Value) (w : World) : (eqGuard .neq 36 x y (.agg u) (.agg v)).run Tryd.prog w = .ok () w := guard_neq_I (by kernel_rfl) x y u v w

set_option maxRecDepth 100000 in
set_option maxHeartbeats 2000000 in
theorem steadyTells_any (v : ImgV) (x : Img) (s hold : Nat) (w : World) (hT : Tab w) (h : ImgAt w v x) (hs : s < 4294967296) (hh : hold < 4294967296) :
    Calls Tryd.prog 7 #[.agg (imgCells v x).toArray, .int .u32 (s : Int), .int .u32 (hold : Int)] w fun e w' => e = .returned (.bool true) ∧ Keep [] w w' := by
  have hb := img_box w v x
  have K0 := (Keep.refl [] w).alloc (.cells (imgCells v x).toArray 26)
  have HG := Lib.hid (great_any v x _ (h.keep0 K0))
  have HR := fun W hk => Lib.hid (right_any v x W (h.keep0 hk))
  have HIL : Hid ((imgCells v x).length = 4) := show _ = _ from rfl
  have hc : Hid (∀ W, Keep [] (w.alloc (.cells (imgCells v x).toArray 26)) W → CellsAt W w.heap.size 0 (imgCells v x) ∧ W.cell? ⟨w.heap.size, 1, none⟩ = some (.slice v.ta x.tasks.length v.tc)) := fun W hk => ⟨(hb.keep0 hk).cellsAt, img_c1 (hb.keep0 hk)⟩
  have hc0 := Lib.hid hb.cellsAt
  have HAl := fun W hk => Lib.hid (alive18 W (hT.keep0 hk))
  cases hg : greatImg x with
  | true =>
    rw [hg] at HG
    clear h hb HR HAl
    generalize imgCells v x = il at *
    go_enter Tryd.func7, Tryd.ntmps7
    go_wp2_with (refine wpList_load_agg rfl 26 (.tmp 3) rfl rfl (cs := il) (by rw [HIL.out]; exact agg_image) hc0.out ?_)
    refine HG.out.mono ?_
    rintro e w1 ⟨rfl, k1⟩
    go_wp2
    go_ret
    exact ⟨rfl, K0.then k1⟩
  | false =>
    rw [hg] at HG
    cases hr : ((chkImg x).2 == 0) with
    | false =>
      rw [hr] at HR
      clear h hb HAl
      generalize imgCells v x = il at *
      go_enter Tryd.func7, Tryd.ntmps7
      go_wp2_with (refine wpList_load_agg rfl 26 (.tmp 3) rfl rfl (cs := il) (by rw [HIL.out]; exact agg_image) hc0.out ?_)
      refine HG.out.mono ?_
      rintro e w1 ⟨rfl, k1⟩
      have K1 := Lib.hid (K0.then k1)
      have k1' := Lib.hid k1
      clear k1
      go_wp2_with (refine wpList_agg_gd rfl 26 (.tmp 3) rfl rfl (cs := il) (by rw [HIL.out]; exact agg_image) (hc.out _ k1'.out).1 ?_)
      refine (HR _ K1.out).out.mono ?_
      rintro e w2 ⟨rfl, k2⟩
      go_wp2
      go_ret
      exact ⟨rfl, K1.out.then k2⟩
    | true =>
      have h0 : (chkImg x).2 = 0 := by simpa using hr
      have hsm := small_of h0
      have hn16 := hsm.n
      have hwl := withinK_lt s x.tasks.length (by omega)
      have hwh := withinK_lt hold x.tasks.length (by omega)
      have hwb : ∀ i, x.tasks.length ≤ i → (withinK s x.tasks.length).testBit i = false := fun i hi => by
        rw [withinK_bit s i _ (by omega), decide_eq_false (by omega), Bool.false_and]
      have HW1 := fun W => Lib.hid (within_any v x s W hs hsm.n)
      have HW2 := fun W => Lib.hid (within_any v x hold W hh hsm.n)
      have hor : withinK s x.tasks.length ||| withinK hold x.tasks.length < 4294967296 := Nat.or_lt_two_pow (n := 32) hwl hwh
      have HOr : Hid (bits .or .u32 (withinK s x.tasks.length : Int) (withinK hold x.tasks.length : Int) = ((withinK s x.tasks.length ||| withinK hold x.tasks.length : Nat) : Int)) := u32_or_nat _ _ hwl hwh
      have HMs := fun W hk => Lib.hid (modes_any v x (withinK s x.tasks.length) W (hT.keep0 hk) (h.keep0 hk) hwl hwb hsm)
      have HC := fun W hk => Lib.hid (ceilOf_any v x (withinK s x.tasks.length ||| withinK hold x.tasks.length) W (hT.keep0 hk) (h.keep0 hk) hor)
      have HRr := fun k hk W hk' => Lib.hid (rresp_any v x (withinK s x.tasks.length) (withinK hold x.tasks.length) (withinK s x.tasks.length ||| withinK hold x.tasks.length) k W (h.keep0 hk') hwl hwh hor hsm hk)
      have HRs := fun (t : Int) W hk => Lib.hid (resp_any v x (withinK s x.tasks.length) (withinK hold x.tasks.length) (ceilOf x.tasks (withinK s x.tasks.length ||| withinK hold x.tasks.length)) t W (hT.keep0 hk) (h.keep0 hk) hwl hwh (ceilIn_len _ _) hsm)
      have HBr := fun k hk W hk' => Lib.hid (rblock_any v x (withinK hold x.tasks.length) (withinK s x.tasks.length ||| withinK hold x.tasks.length) k W (h.keep0 hk') hwh hor hk hsm)
      have HBs := fun (t : Int) W hk => Lib.hid (block_any v x (withinK hold x.tasks.length) (ceilOf x.tasks (withinK s x.tasks.length ||| withinK hold x.tasks.length)) t W (hT.keep0 hk) (h.keep0 hk) hwh (ceilIn_len _ _) hsm)
      have HSame := Lib.hid (fun k (hk : k < x.tasks.length) => resp_same hsm (withinK s x.tasks.length) (withinK hold x.tasks.length) (withinK s x.tasks.length ||| withinK hold x.tasks.length) k hwh hk)
      have HBS := Lib.hid (fun k (hk : k < x.tasks.length) => block_same x.tasks (withinK hold x.tasks.length) (withinK s x.tasks.length ||| withinK hold x.tasks.length) k hwh hsm.n (by omega))
      have HLow : Hid (respM x (withinK s x.tasks.length) (withinK hold x.tasks.length) (ceilOf x.tasks (withinK s x.tasks.length ||| withinK hold x.tasks.length)) (-1) = (⟨0, 0, 0⟩, false)) := by show _ = _; unfold respM; rw [if_pos (by omega)]
      have HHigh : Hid (respM x (withinK s x.tasks.length) (withinK hold x.tasks.length) (ceilOf x.tasks (withinK s x.tasks.length ||| withinK hold x.tasks.length)) (x.tasks.length : Int) = (⟨0, 0, 0⟩, false)) := by
        show _ = _; unfold respM; rw [if_neg (by omega), Int.toNat_natCast, List.getElem?_eq_none (Nat.le_refl _)]
      have HTL : Hid ((iv (ceilOf x.tasks (withinK s x.tasks.length ||| withinK hold x.tasks.length))).length = 8) := by show _ = _; rw [iv_len]; exact ceilIn_len _ _
      have HTO := Lib.hid (iv_one (ceilOf x.tasks (withinK s x.tasks.length ||| withinK hold x.tasks.length)))
      have HN := Lib.hid hn16
      rw [hr] at HR
      clear h hb hsm h0 hT hwb
      generalize withinK s x.tasks.length = a at *
      generalize withinK hold x.tasks.length = b at *
      generalize a ||| b = ab at *
      generalize ceilOf x.tasks ab = T at *
      generalize iv T = tc at *
      generalize imgCells v x = il at *
      go_enter Tryd.func7, Tryd.ntmps7
      go_wp2_with (refine wpList_load_agg rfl 26 (.tmp 3) rfl rfl (cs := il) (by rw [HIL.out]; exact agg_image) hc0.out ?_)
      refine HG.out.mono ?_
      rintro e w1 ⟨rfl, k1⟩
      have K1 := Lib.hid (K0.then k1)
      have k1' := Lib.hid k1
      clear k1
      go_wp2_with (refine wpList_agg_gd rfl 26 (.tmp 3) rfl rfl (cs := il) (by rw [HIL.out]; exact agg_image) (hc.out _ k1'.out).1 ?_)
      refine (HR _ K1.out).out.mono ?_
      rintro e w2 ⟨rfl, k2⟩
      have K2 := Lib.hid (K1.out.then k2)
      have k2' := Lib.hid (k1'.out.then k2)
      have HC2 : Hid (∀ w', Keep [] w2 w' → CellsAt w' w.heap.size 0 il) := fun w' hw => (hc.out _ (k2'.out.then hw)).1
      clear k2
      go_wp2
      refine ap_begin 7 (Keep [] w2) rfl (Keep.refl _ _).drew (fun hS hPan => ?_) (fun _ _ d _ _ h => by cases d <;> exact h)
      refine ap_agg 0 26 (.tmp 3) il rfl (by kernel_rfl) (by kernel_rfl) (by kernel_rfl) (by kernel_rfl) (by rfl) hPan rfl rfl (by rw [HIL.out]; exact agg_image) HC2.out hS ?_
      (simp only [Act.put, List.setIfInBounds_toArray, List.set_cons_zero, List.set_cons_succ])
      (refine ap_val (v := ?_) 1 rfl (by kernel_rfl) (by kernel_rfl) (by kernel_rfl) (by kernel_rfl) (by rfl) hPan ?_ hS ?_; rotate_left; (intro w' hSw; go_simp; try with_reducible rfl); simp only [Act.put, List.setIfInBounds_toArray, List.set_cons_zero, List.set_cons_succ])
      refine ap_agg 3 26 (.tmp 3) il rfl (by kernel_rfl) (by kernel_rfl) (by kernel_rfl) (by kernel_rfl) (by rfl) hPan rfl rfl (by rw [HIL.out]; exact agg_image) HC2.out hS ?_
      (simp only [Act.put, List.setIfInBounds_toArray, List.set_cons_zero, List.set_cons_succ])
      (refine ap_val (v := ?_) 4 rfl (by kernel_rfl) (by kernel_rfl) (by kernel_rfl) (by kernel_rfl) (by rfl) hPan ?_ hS ?_; rotate_left; (intro w' hSw; go_simp; try with_reducible rfl); simp only [Act.put, List.setIfInBounds_toArray, List.set_cons_zero, List.set_cons_succ])
      refine ap_one 2 (by kernel_rfl) ?_
      refine op_call (f := 23) (vs := #[.agg il.toArray, .int .u32 (s : Int)]) 2 rfl (by rfl) rfl (by simp only [List.map_toArray, List.map_cons, List.map_nil]; rfl) Tryd.func23 (by kernel_rfl) (by kernel_rfl) (HW1 _).out ?_
      rintro e w3 ⟨rfl, k3⟩
      have hS3 := hS.then k3
      refine ⟨_, rfl, fun _ => hS3, ?_⟩
      clear hS k3
      have hS := hS3
      clear hS3
      (simp only [Act.put, List.setIfInBounds_toArray, List.set_cons_zero, List.set_cons_succ])
      refine ap_one 5 (by kernel_rfl) ?_
      refine op_call (f := 23) (vs := #[.agg il.toArray, .int .u32 (hold : Int)]) 5 rfl (by rfl) rfl (by simp only [List.map_toArray, List.map_cons, List.map_nil]; rfl) Tryd.func23 (by kernel_rfl) (by kernel_rfl) (HW2 _).out ?_
      rintro e w4 ⟨rfl, k4⟩
      have hS4 := hS.then k4
      refine ⟨_, rfl, fun _ => hS4, ?_⟩
      clear hS k4
      have hS := hS4
      clear hS4
      (simp only [Act.put, List.setIfInBounds_toArray, List.set_cons_zero, List.set_cons_succ])
      (refine ap_val (v := ?_) 6 rfl (by kernel_rfl) (by kernel_rfl) (by kernel_rfl) (by kernel_rfl) (by rfl) hPan ?_ hS ?_; rotate_left; (intro w' hSw; go_simp; try with_reducible rfl); simp only [Act.put, List.setIfInBounds_toArray, List.set_cons_zero, List.set_cons_succ])
      refine ap_one 7 (by kernel_rfl) ?_
      refine op_run (v := .int .u32 (b : Int)) (w' := w4) 7 rfl (by rfl) (by go_simp) ?_
      refine ⟨fun _ => hS, ap_done (by kernel_rfl) ?_ _⟩
      (simp only [Act.put, List.setIfInBounds_toArray, List.set_cons_zero, List.set_cons_succ])
      have K4 := Lib.hid (K2.out.then hS)
      have k4' := Lib.hid (k2'.out.then hS)
      clear hS hPan
      have hor2 := HOr.out
      go_wp2_with (refine wpList_load_agg rfl 26 (.tmp 3) rfl rfl (cs := il) (by rw [HIL.out]; exact agg_image) (hc.out _ k4'.out).1 ?_)
      refine (HC _ K4.out).out.mono ?_
      rintro e w5 ⟨rfl, k5⟩
      have k5' := Lib.hid (k4'.out.then k5)
      have hz5 := k5.size
      clear k5
      go_wp2_with (refine stop_store 75 (.tmp 9) (.tmp 39) rfl ?_)
      constructor
      refine wpList_store_all rfl 75 (.tmp 9) (.tmp 39) rfl (vs := tc) rfl rfl (by rw [HTL.out]; kernel_rfl) (Blk.new _ _ _) HTO.out (by rw [HTL.out]; rfl) ?_
      intro w6 d6 k6
      have kk6 := (k5'.out.alloc (.cells (List.replicate 8 (.int .i64 0)).toArray 75)).trans k6 (fun y hy hlt => by simp at hy; have := k5'.out.size; omega)
      have k6' := Lib.hid kk6
      have K6 := Lib.hid (K0.then kk6)
      have HD6 := Lib.hid d6
      clear k6 kk6 d6 hz5
      obtain ⟨g9, hg9⟩ : ∃ g9, w5.heap.size = g9 := ⟨_, rfl⟩
      simp only [hg9] at *
      clear hg9
      go_wp2
      go_loopw [10] (fun i wr => ∃ k : Nat, k ≤ x.tasks.length ∧ i = .int .i64 k ∧ Keep [] w6 wr) (fun i _ => x.tasks.length - (intOf i).toNat)
      case atStart => exact ⟨0, Nat.zero_le _, rfl, Keep.refl _ _⟩
      case round =>
        obtain ⟨k, hk, rfl, hK⟩ := hrel
        have HK := Lib.hid hK
        have k7' := Lib.hid (k6'.out.then hK)
        have K7 := Lib.hid (K6.out.then hK)
        have HD7 : Hid (CellsAt wr g9 0 tc) := (HD6.out.keep0 hK).cellsAt
        have c1 := (hc.out _ k7'.out).2
        have hn16 := HN.out
        clear hK
        by_cases hlt : k < x.tasks.length
        · have hRr := HRr k hlt
          have hRs := HRs (k : Int)
          have hBr := HBr k hlt
          have hBs := HBs (k : Int)
          rw [HSame.out k hlt] at hRs
          rw [HBS.out k hlt] at hBs
          generalize rblock x.tasks b ab k = rb at *
          generalize rrespM x a b ab k = rr at *
          unfold respRes rowCells at hRs
          dsimp only at hRs
          have hrn := row_neq (k : Int) rb (rr.getD 0)
          have hgn := row_guard
          have hss : (rr.isSome != rr.isSome) = false := by simp
          have hbb : (rb != rb) = false := by simp
          have hor2 := HOr.out
          go_wp2_with (refine wpList_load_agg rfl 26 (.tmp 3) rfl rfl (cs := il) (by rw [HIL.out]; exact agg_image) (hc.out _ k7'.out).1 ?_)
          refine (hRr _ K7.out).out.mono ?_
          rintro e w8 ⟨rfl, k8⟩
          rw [numRes_eq]
          have K8 := Lib.hid (K7.out.then k8)
          have k8' := Lib.hid (k7'.out.then k8)
          have HK8 := Lib.hid (HK.out.then k8)
          have HD8 : Hid (CellsAt w8 g9 0 tc) := (HD6.out.keep0 HK8.out).cellsAt
          clear k8 c1
          go_wp2_with (first
            | (refine wpList_load_agg rfl 26 (.tmp 3) rfl rfl (cs := il) (by rw [HIL.out]; exact agg_image) (hc.out _ k8'.out).1 ?_)
            | (refine wpList_load_agg rfl 75 (.tmp 9) rfl rfl (cs := tc) (by rw [HTL.out]; exact agg_tab) HD8.out ?_))
          refine (hRs _ K8.out).out.mono ?_
          rintro e w9 ⟨rfl, k9⟩
          have HK9 := Lib.hid (HK8.out.then k9)
          have hz9 := k9.size
          clear k9
          go_wp2_with (refine stop_store 36 (.tmp 13) (.tmp 65) rfl ?_)
          constructor
          refine wpList_store_all rfl 36 (.tmp 13) (.tmp 65) rfl (vs := [.int .i64 (k : Int), .int .i64 rb, .int .i64 (rr.getD 0)]) rfl rfl (by kernel_rfl) (Blk.new _ _ _) (by simp [Value.oneCell']) rfl ?_
          intro w10 d10 k10
          have kk10 := (HK9.out.alloc (.cells #[.int .i64 0, .int .i64 0, .int .i64 0] 36)).trans k10 (fun y hy hlt => by simp at hy; have := HK9.out.size; omega)
          have HK10 := Lib.hid kk10
          have K10 := Lib.hid (K6.out.then kk10)
          have k10' := Lib.hid (k6'.out.then kk10)
          have HD10 := Lib.hid d10
          clear k10 kk10 d10 hz9
          go_wp2_with (refine wpList_load_agg rfl 26 (.tmp 3) rfl rfl (cs := il) (by rw [HIL.out]; exact agg_image) (hc.out _ k10'.out).1 ?_)
          refine (hBr _ K10.out).out.mono ?_
          rintro e w11 ⟨rfl, k11⟩
          have HK11 := Lib.hid (HK10.out.then k11)
          have K11 := Lib.hid (K10.out.then k11)
          have k11' := Lib.hid (k10'.out.then k11)
          have HD11 : Hid (CellsAt w11 w9.heap.size 0 [.int .i64 (k : Int), .int .i64 rb, .int .i64 (rr.getD 0)]) := Blk.cellsAt (HD10.out.keep0 k11)
          have HT11 : Hid (CellsAt w11 g9 0 tc) := (HD6.out.keep0 HK11.out).cellsAt
          clear k11
          go_wp2_with (first
            | (refine wpList_load_agg rfl 36 (.tmp 13) rfl rfl (cs := [.int .i64 (k : Int), .int .i64 rb, .int .i64 (rr.getD 0)]) agg_row HD11.out ?_)
            | (refine wpList_agg_gd rfl 26 (.tmp 3) rfl rfl (cs := il) (by rw [HIL.out]; exact agg_image) (hc.out _ k11'.out).1 ?_)
            | (refine wpList_agg_gd rfl 75 (.tmp 9) rfl rfl (cs := tc) (by rw [HTL.out]; exact agg_tab) HT11.out ?_))
          refine (hBs _ K11.out).out.mono ?_
          rintro e w12 ⟨rfl, k12⟩
          have HK12 := Lib.hid (HK11.out.then k12)
          clear k12
          go_wp2
          go_roundw
          case rel => exact ⟨k + 1, by omega, by go_num, HK12.out⟩
          case measure => simp [intOf] <;> omega
        · obtain rfl : k = x.tasks.length := by omega
          have hRl := HRs (-1)
          have hRh := HRs (x.tasks.length : Int)
          rw [HLow.out] at hRl
          rw [HHigh.out] at hRh
          unfold respRes rowCells at hRl hRh
          dsimp only at hRl hRh
          go_wp2_with (first
            | (refine wpList_load_agg rfl 26 (.tmp 3) rfl rfl (cs := il) (by rw [HIL.out]; exact agg_image) (hc.out _ k7'.out).1 ?_)
            | (refine wpList_load_agg rfl 75 (.tmp 9) rfl rfl (cs := tc) (by rw [HTL.out]; exact agg_tab) HD7.out ?_))
          refine (hRl _ K7.out).out.mono ?_
          rintro e w8 ⟨rfl, k8⟩
          have HK8 := Lib.hid (HK.out.then k8)
          clear k8 c1
          go_wp2_with (refine stop_store 36 (.tmp 16) (.tmp 100) rfl ?_)
          constructor
          refine wpList_store_all rfl 36 (.tmp 16) (.tmp 100) rfl (vs := [.int .i64 0, .int .i64 0, .int .i64 0]) rfl rfl (by kernel_rfl) (Blk.new _ _ _) (by simp [Value.oneCell']) rfl ?_
          intro w9 d9 k9
          have kk9 := (HK8.out.alloc (.cells #[.int .i64 0, .int .i64 0, .int .i64 0] 36)).trans k9 (fun y hy hlt => by simp at hy; have := HK8.out.size; omega)
          have HK9 := Lib.hid kk9
          have K9 := Lib.hid (K6.out.then kk9)
          have k9' := Lib.hid (k6'.out.then kk9)
          have HD9 : Hid (CellsAt w9 g9 0 tc) := (HD6.out.keep0 kk9).cellsAt
          have c9 := (hc.out _ k9'.out).2
          clear k9 kk9 d9
          go_wp2_with (first
            | (refine wpList_load_agg rfl 26 (.tmp 3) rfl rfl (cs := il) (by rw [HIL.out]; exact agg_image) (hc.out _ k9'.out).1 ?_)
            | (refine wpList_load_agg rfl 75 (.tmp 9) rfl rfl (cs := tc) (by rw [HTL.out]; exact agg_tab) HD9.out ?_))
          refine (hRh _ K9.out).out.mono ?_
          rintro e w10 ⟨rfl, k10⟩
          have HK10 := Lib.hid (HK9.out.then k10)
          clear k10 c9
          go_wp2_with (refine stop_store 36 (.tmp 18) (.tmp 111) rfl ?_)
          constructor
          refine wpList_store_all rfl 36 (.tmp 18) (.tmp 111) rfl (vs := [.int .i64 0, .int .i64 0, .int .i64 0]) rfl rfl (by kernel_rfl) (Blk.new _ _ _) (by simp [Value.oneCell']) rfl ?_
          intro w11 d11 k11
          have kk11 := (HK10.out.alloc (.cells #[.int .i64 0, .int .i64 0, .int .i64 0] 36)).trans k11 (fun y hy hlt => by simp at hy; have := HK10.out.size; omega)
          have K11 := Lib.hid (K6.out.then kk11)
          have k11' := Lib.hid (k6'.out.then kk11)
          clear k11 kk11 d11
          go_wp2_with (refine wpList_agg_gd rfl 26 (.tmp 3) rfl rfl (cs := il) (by rw [HIL.out]; exact agg_image) (hc.out _ k11'.out).1 ?_)
          refine (HMs _ K11.out).out.mono ?_
          rintro e w12 ⟨rfl, k12⟩
          have K12 := Lib.hid (K11.out.then k12)
          clear k12
          go_wp2_with fail
          refine (HAl _ K12.out).out.mono ?_
          rintro e w13 ⟨rfl, k13⟩
          have K13 := Lib.hid (K12.out.then k13)
          clear k13
          go_wp2
          go_ret
          exact ⟨rfl, K13.out⟩
end Go.Proofs.YtajlkfhekligeaaDoor
