/- bank.Commit, walked. Condition: the device is one that may be, the bank one that fits. -/
import Derived.Test.YteanpgkonhdbpaaBkY
namespace Go.Proofs.Yteanpgkonhdbpaa
open Go.RowKit

section
variable (gb g b1 b2 : Nat) (d : Dev) (b : BkS) (q : Nat) (w : World) (hb : BankAt w gb g b) (hd : DevAt w g b1 b2 d) (ho : d.Ok) (hk : BkOk d b) (hp : b.pn ≤ 100000) (hs : b.s < 4294967296) (hq : q < 4294967296)
include hb hd ho hk hp hs hq
set_option maxRecDepth 100000 in
set_option maxHeartbeats 8000000 in
theorem bcommit_any : Calls Try.prog 71 #[.pointer (some ⟨gb, 0, none⟩), .int .u32 (q : Int)] w fun e w' => e = .returned (.int .i64 (commitB d b q).2.2) ∧ LeftB w w' gb g b1 b2 (commitB d b q).1 (commitB d b q).2.1 := by
  have HA : Hid (AggOf Try.prog 68 3) := ⟨by kernel_rfl, by kernel_rfl⟩
  have HCS := fun W => Lib.hid (commits_any W)
  have HCM : Hid (commitB d b q = if b.opn = false ∨ b.pn = 0 then (d, b, 80)
    else if (progsH d (b.base + 1) (headW q b.pn (cplJ b.s))).2 = 0 then
      ((progsH (progsH d (b.base + 1) (headW q b.pn (cplJ b.s))).1 (b.base + 1) (pairH 6 1668246893)).1, { b with opn := false }, (progsH (progsH d (b.base + 1) (headW q b.pn (cplJ b.s))).1 (b.base + 1) (pairH 6 1668246893)).2)
    else ((progsH d (b.base + 1) (headW q b.pn (cplJ b.s))).1, { b with opn := false }, (progsH d (b.base + 1) (headW q b.pn (cplJ b.s))).2)) := show _ = _ from rfl
  generalize commitB d b q = res at *
  obtain ⟨c0, c1, c2, c3, c4⟩ := hb.cells
  have HO := Lib.hid ho
  have HK := Lib.hid hk
  have HB := Lib.hid hb
  have HD := Lib.hid hd
  have HS := Lib.hid hs
  have HQ := Lib.hid hq
  have hcs := cpl_lt b.s
  have HLF : Hid (LeftB w w gb g b1 b2 d b) := ⟨hd, hb, (Keep.refl [] w).mono (by simp)⟩
  have hne := bank_ne hd hb
  have gf := Blk.frozen hb 3
  have hgl := Blk.lt hb
  have HB1 : Hid (BankAt (w.setCell ⟨gb, 3, none⟩ (.bool false)) gb g { b with opn := false }) := Blk.set_ hb 3 _
  have HK1 : Hid (Keep [gb, g, b1, b2] w (w.setCell ⟨gb, 3, none⟩ (.bool false))) := (keep_set w gb 3 (.bool false)).mono (by simp)
  have HD1 : Hid (DevAt (w.setCell ⟨gb, 3, none⟩ (.bool false)) g b1 b2 d) := hd.keep (keep_set _ gb 3 _) (by simp; omega) (by simp; omega) (by simp; omega)
  clear hb hd ho hk hs hq hne
  go_enter Try.func71, Try.ntmps71
  cases hop : b.opn with
  | false =>
    rw [hop] at c3
    have HRS : Hid (res = (d, b, 80)) := by show _ = _; rw [HCM.out, if_pos (.inl hop)]
    go_wp2_with fail
    go_ret
    rw [HRS.out]
    exact ⟨rfl, HLF.out⟩
  | true =>
    rw [hop] at c3
    by_cases hp0 : b.pn = 0
    · have HRS : Hid (res = (d, b, 80)) := by show _ = _; rw [HCM.out, if_pos (.inr hp0)]
      rw [hp0] at c4
      go_wp2_with fail
      go_ret
      rw [HRS.out]
      exact ⟨rfl, HLF.out⟩
    · have HCM2 := HCM.out
      rw [if_neg (by rw [hop]; simp [hp0])] at HCM2
      replace HCM : Hid _ := Lib.hid HCM2
      clear HCM2
      have q0 : decide ((b.pn : Int) = 0) = false := decide_eq_false (by omega)
      have p0 : ((b.pn : Int) = 0) = False := eq_false (by omega)
      have p1 := eq_false hp0
      go_upto_region 4 with fail
      generalize w.setCell ⟨gb, 3, none⟩ (.bool false) = w1 at *
      have hG : ∀ W, Keep [] w1 W → W.cell? ⟨gb, 4, none⟩ = some (.int .i64 (b.pn : Int)) ∧ True ∧ True := fun W k => ⟨(HB1.out.keep0 k).cells.2.2.2.2, trivial, trivial⟩
      have hwu : IntKind.u32.wrap (b.pn : Int) = (b.pn : Int) := IntWalk.u32_in _ (by omega)
      have HVL : Hid (∀ W, Keep [] w1 W → Calls Try.prog 74 #[.pointer (some ⟨gb, 5, none⟩)] W fun e w' => e = .returned (.int .u32 ((cplJ b.s : Nat) : Int)) ∧ W = w') := fun W k =>
        cvalue_any gb 5 128 (bkCells g { b with opn := false }) b.s b.m W (HB1.out.keep0 k) (by show 6 < 7; decide)
      clear c0 c1 c2 c3 c4 gf
      generalize hcc : cplJ b.s = sm at *
      go_cut [5] from 7 (fun v5 wx => ∃ B5, v5 = .pointer (some ⟨B5, 0, none⟩) ∧ Blk wx B5 68 #[.int .u32 (q : Int), .int .u32 (b.pn : Int), .int .u32 (sm : Int)] ∧ Keep [] w1 wx)
      case first =>
        refine ap_begin 12 (Keep [] w1) rfl (Keep.refl _ _).drew (fun hS hPan => ?_) (fun _ _ d _ _ h => by cases d <;> exact h)
        (refine ap_val (v := ?_) 0 rfl (by kernel_rfl) (by kernel_rfl) (by kernel_rfl) (by kernel_rfl) (by rfl) hPan ?_ hS ?_; rotate_left; (intro w' hSw; go_simp; try with_reducible rfl); simp only [Act.put, List.setIfInBounds_toArray, List.set_cons_zero, List.set_cons_succ])
        (refine ap_val (v := ?_) 1 rfl (by kernel_rfl) (by kernel_rfl) (by kernel_rfl) (by kernel_rfl) (by rfl) hPan ?_ hS ?_; rotate_left; (intro w' hSw; go_simp; try with_reducible rfl); simp only [Act.put, List.setIfInBounds_toArray, List.set_cons_zero, List.set_cons_succ])
        (refine ap_val (v := ?_) 2 rfl (by kernel_rfl) (by kernel_rfl) (by kernel_rfl) (by kernel_rfl) (by rfl) hPan ?_ hS ?_; rotate_left; (intro w' hSw; go_simp; try with_reducible rfl); simp only [Act.put, List.setIfInBounds_toArray, List.set_cons_zero, List.set_cons_succ])
        (refine ap_val (v := ?_) 3 rfl (by kernel_rfl) (by kernel_rfl) (by kernel_rfl) (by kernel_rfl) (by rfl) hPan ?_ hS ?_; rotate_left; (intro w' hSw; go_simp; try with_reducible rfl); simp only [Act.put, List.setIfInBounds_toArray, List.set_cons_zero, List.set_cons_succ])
        (refine ap_val (v := ?_) 4 rfl (by kernel_rfl) (by kernel_rfl) (by kernel_rfl) (by kernel_rfl) (by rfl) hPan ?_ hS ?_; rotate_left; (intro w' hSw; obtain ⟨f0,f1,f2⟩ := hG w' hSw; go_simp; try with_reducible rfl); simp only [Act.put, List.setIfInBounds_toArray, List.set_cons_zero, List.set_cons_succ])
        (refine ap_val (v := ?_) 5 rfl (by kernel_rfl) (by kernel_rfl) (by kernel_rfl) (by kernel_rfl) (by rfl) hPan ?_ hS ?_; rotate_left; (intro w' hSw; go_simp; try with_reducible rfl); simp only [Act.put, List.setIfInBounds_toArray, List.set_cons_zero, List.set_cons_succ])
        (refine ap_val (v := ?_) 6 rfl (by kernel_rfl) (by kernel_rfl) (by kernel_rfl) (by kernel_rfl) (by rfl) hPan ?_ hS ?_; rotate_left; (intro w' hSw; go_simp; try with_reducible rfl); simp only [Act.put, List.setIfInBounds_toArray, List.set_cons_zero, List.set_cons_succ])
        (refine ap_val (v := ?_) 7 rfl (by kernel_rfl) (by kernel_rfl) (by kernel_rfl) (by kernel_rfl) (by rfl) hPan ?_ hS ?_; rotate_left; (intro w' hSw; go_simp; try with_reducible rfl); simp only [Act.put, List.setIfInBounds_toArray, List.set_cons_zero, List.set_cons_succ])
        (refine ap_val (v := ?_) 8 rfl (by kernel_rfl) (by kernel_rfl) (by kernel_rfl) (by kernel_rfl) (by rfl) hPan ?_ hS ?_; rotate_left; (intro w' hSw; go_simp; try with_reducible rfl); simp only [Act.put, List.setIfInBounds_toArray, List.set_cons_zero, List.set_cons_succ])
        generalize w1.drew = wd at *
        refine ap_twoJ 9 11 (by kernel_rfl) ?ta ?tb
        case ta =>
          refine op_call (f := 74) (vs := #[.pointer (some ⟨gb, 5, none⟩)]) 9 rfl (by kernel_rfl) rfl (by simp only [List.map_toArray, List.map_cons, List.map_nil]; rfl) Try.func74 (by kernel_rfl) (by kernel_rfl) (HVL.out wd hS) ?_
          rintro e ws ⟨rfl, rfl⟩
          refine ⟨_, rfl, fun _ => hS, ?_⟩
          (simp only [Act.put, List.setIfInBounds_toArray, List.set_cons_zero, List.set_cons_succ])
          refine ap_twoJ 10 11 (by kernel_rfl) ?ta1 ?ta2
          case ta1 =>
            refine op_run (v := .agg #[.int .u32 (q : Int), .int .u32 (b.pn : Int), .int .u32 (sm : Int)]) (w' := wd) 10 rfl (by kernel_rfl) (by go_simp) ?_
            refine ⟨fun _ => hS, ?_⟩
            (simp only [Act.put, List.setIfInBounds_toArray, List.set_cons_zero, List.set_cons_succ])
            refine ap_one 11 (by kernel_rfl) ?_
            refine op_run (v := .pointer (some ⟨wd.heap.size, 0, none⟩)) (w' := wd.alloc (.cells #[.int .u32 0, .int .u32 0, .int .u32 0] 68)) 11 rfl (by kernel_rfl) (by go_simp) ?_
            have hbn := Blk.new wd 68 #[.int .u32 0, .int .u32 0, .int .u32 0]
            have kal : Keep [] w1 (wd.alloc (.cells #[.int .u32 0, .int .u32 0, .int .u32 0] 68)) := hS.alloc _
            have hll : w1.heap.size ≤ wd.heap.size := hS.size
            refine ⟨fun _ => kal, ?_⟩
            (simp only [Act.put, List.setIfInBounds_toArray, List.set_cons_zero, List.set_cons_succ])
            generalize wd.alloc (.cells #[.int .u32 0, .int .u32 0, .int .u32 0] 68) = wz at *
            generalize wd.heap.size = B5 at *
            refine ap_one 12 (by kernel_rfl) ?_
            refine op_store_all (t := 68) (cs := #[.int .u32 0, .int .u32 0, .int .u32 0]) (vs := [.int .u32 (q : Int), .int .u32 (b.pn : Int), .int .u32 (sm : Int)]) 12 rfl (by kernel_rfl) rfl rfl rfl HA.out.2 hbn (by simp [Value.oneCell']) rfl ?_
            intro w9 d9 k9
            refine ⟨fun h => (by cases h), ap_done (by kernel_rfl) ?_ _⟩
            (simp only [Act.put, List.setIfInBounds_toArray, List.set_cons_zero, List.set_cons_succ])
            have HD9 := Lib.hid d9
            have HS9 : Hid (Keep [] w1 w9) := kal.trans k9 (fun y hy hl => by simp only [List.mem_cons, List.not_mem_nil, or_false] at hy; omega)
            clear k9 d9 hS hPan hG hbn kal hll
            go_wp2_with fail
            go_meet
            case rel => exact ⟨_, rfl, HD9.out, HS9.out⟩
          case ta2 =>
            refine op_run (v := .pointer (some ⟨wd.heap.size, 0, none⟩)) (w' := wd.alloc (.cells #[.int .u32 0, .int .u32 0, .int .u32 0] 68)) 11 rfl (by kernel_rfl) (by go_simp) ?_
            have hbn := Blk.new wd 68 #[.int .u32 0, .int .u32 0, .int .u32 0]
            have kal : Keep [] w1 (wd.alloc (.cells #[.int .u32 0, .int .u32 0, .int .u32 0] 68)) := hS.alloc _
            have hll : w1.heap.size ≤ wd.heap.size := hS.size
            refine ⟨fun _ => kal, ?_⟩
            (simp only [Act.put, List.setIfInBounds_toArray, List.set_cons_zero, List.set_cons_succ])
            refine ap_one 10 (by kernel_rfl) ?_
            refine op_run (v := .agg #[.int .u32 (q : Int), .int .u32 (b.pn : Int), .int .u32 (sm : Int)]) (w' := wd.alloc (.cells #[.int .u32 0, .int .u32 0, .int .u32 0] 68)) 10 rfl (by kernel_rfl) (by go_simp) ?_
            refine ⟨fun _ => kal, ?_⟩
            (simp only [Act.put, List.setIfInBounds_toArray, List.set_cons_zero, List.set_cons_succ])
            generalize wd.alloc (.cells #[.int .u32 0, .int .u32 0, .int .u32 0] 68) = wz at *
            generalize wd.heap.size = B5 at *
            refine ap_one 12 (by kernel_rfl) ?_
            refine op_store_all (t := 68) (cs := #[.int .u32 0, .int .u32 0, .int .u32 0]) (vs := [.int .u32 (q : Int), .int .u32 (b.pn : Int), .int .u32 (sm : Int)]) 12 rfl (by kernel_rfl) rfl rfl rfl HA.out.2 hbn (by simp [Value.oneCell']) rfl ?_
            intro w9 d9 k9
            refine ⟨fun h => (by cases h), ap_done (by kernel_rfl) ?_ _⟩
            (simp only [Act.put, List.setIfInBounds_toArray, List.set_cons_zero, List.set_cons_succ])
            have HD9 := Lib.hid d9
            have HS9 : Hid (Keep [] w1 w9) := kal.trans k9 (fun y hy hl => by simp only [List.mem_cons, List.not_mem_nil, or_false] at hy; omega)
            clear k9 d9 hS hPan hG hbn kal hll
            go_wp2_with fail
            go_meet
            case rel => exact ⟨_, rfl, HD9.out, HS9.out⟩
        case tb =>
          refine op_run (v := .pointer (some ⟨wd.heap.size, 0, none⟩)) (w' := wd.alloc (.cells #[.int .u32 0, .int .u32 0, .int .u32 0] 68)) 11 rfl (by kernel_rfl) (by go_simp) ?_
          have hbn := Blk.new wd 68 #[.int .u32 0, .int .u32 0, .int .u32 0]
          have kal : Keep [] w1 (wd.alloc (.cells #[.int .u32 0, .int .u32 0, .int .u32 0] 68)) := hS.alloc _
          have hll : w1.heap.size ≤ wd.heap.size := hS.size
          refine ⟨fun _ => kal, ?_⟩
          (simp only [Act.put, List.setIfInBounds_toArray, List.set_cons_zero, List.set_cons_succ])
          refine ap_one 9 (by kernel_rfl) ?_
          refine op_call (f := 74) (vs := #[.pointer (some ⟨gb, 5, none⟩)]) 9 rfl (by kernel_rfl) rfl (by simp only [List.map_toArray, List.map_cons, List.map_nil]; rfl) Try.func74 (by kernel_rfl) (by kernel_rfl) (HVL.out _ kal) ?_
          rintro e ws ⟨rfl, rfl⟩
          refine ⟨_, rfl, fun _ => kal, ?_⟩
          (simp only [Act.put, List.setIfInBounds_toArray, List.set_cons_zero, List.set_cons_succ])
          refine ap_one 10 (by kernel_rfl) ?_
          refine op_run (v := .agg #[.int .u32 (q : Int), .int .u32 (b.pn : Int), .int .u32 (sm : Int)]) (w' := wd.alloc (.cells #[.int .u32 0, .int .u32 0, .int .u32 0] 68)) 10 rfl (by kernel_rfl) (by go_simp) ?_
          refine ⟨fun _ => kal, ?_⟩
          (simp only [Act.put, List.setIfInBounds_toArray, List.set_cons_zero, List.set_cons_succ])
          generalize wd.alloc (.cells #[.int .u32 0, .int .u32 0, .int .u32 0] 68) = wz at *
          generalize wd.heap.size = B5 at *
          refine ap_one 12 (by kernel_rfl) ?_
          refine op_store_all (t := 68) (cs := #[.int .u32 0, .int .u32 0, .int .u32 0]) (vs := [.int .u32 (q : Int), .int .u32 (b.pn : Int), .int .u32 (sm : Int)]) 12 rfl (by kernel_rfl) rfl rfl rfl HA.out.2 hbn (by simp [Value.oneCell']) rfl ?_
          intro w9 d9 k9
          refine ⟨fun h => (by cases h), ap_done (by kernel_rfl) ?_ _⟩
          (simp only [Act.put, List.setIfInBounds_toArray, List.set_cons_zero, List.set_cons_succ])
          have HD9 := Lib.hid d9
          have HS9 : Hid (Keep [] w1 w9) := kal.trans k9 (fun y hy hl => by simp only [List.mem_cons, List.not_mem_nil, or_false] at hy; omega)
          clear k9 d9 hS hPan hG hbn kal hll
          go_wp2_with fail
          go_meet
          case rel => exact ⟨_, rfl, HD9.out, HS9.out⟩
      case rest =>
        obtain ⟨B5, rfl, hb5, k5⟩ := hcut
        generalize wc = w5 at *
        have HB5 := Lib.hid (hb5.alloc (.cells #[.int .u32 (q : Int), .int .u32 (b.pn : Int), .int .u32 (sm : Int)] 68))
        have HH5 := Lib.hid hb5.cellsAt
        have k6 : Keep [] w1 (w5.alloc (.cells #[.int .u32 (q : Int), .int .u32 (b.pn : Int), .int .u32 (sm : Int)] 68)) := k5.alloc _
        have h6 := Blk.new w5 68 #[.int .u32 (q : Int), .int .u32 (b.pn : Int), .int .u32 (sm : Int)]
        have HWR : Hid (Calls Try.prog 108 #[.pointer (some ⟨gb, 0, none⟩), .func (.func 129) #[] #[.pointer (some ⟨w5.heap.size, 0, none⟩)]] (w5.alloc (.cells #[.int .u32 (q : Int), .int .u32 (b.pn : Int), .int .u32 (sm : Int)] 68)) fun e w' => e = .returned (.int .i64 (progsH d (b.base + 1) (headW q b.pn sm)).2) ∧ LeftB (w5.alloc (.cells #[.int .u32 (q : Int), .int .u32 (b.pn : Int), .int .u32 (sm : Int)] 68)) w' gb g b1 b2 (progsH d (b.base + 1) (headW q b.pn sm)).1 { b with opn := false }) :=
          bwrite_any gb g b1 b2 d { b with opn := false } _ (HB1.out.keep0 k6) (HD1.out.keep0 k6) HO.out ⟨HK.out.three, HK.out.fits, HK.out.words⟩ _ _ (headW q b.pn sm) (headW_lt HQ.out (by omega) hcs)
            (fun W k => writes1_seq 8 q b.pn sm _ W HQ.out (by omega) hcs (h6.keep0 k)) (enters_of Try.func129 (by kernel_rfl) rfl)
        have HWS := Lib.hid (writes_any q b.pn sm w5)
        have HOK := Lib.hid (progsH_ok (headW q b.pn sm) d (b.base + 1) HO.out (headW_lt HQ.out (by omega) hcs))
        obtain ⟨d2, e2, hp2⟩ : ∃ d2 e2, progsH d (b.base + 1) (headW q b.pn sm) = (d2, e2) := ⟨_, _, rfl⟩
        rw [hp2] at HWR HCM HOK
        dsimp only at HWR HCM HOK
        have HK6 := Lib.hid (HK1.out.trans k6 (fun y hy _ => by simp at hy))
        clear hb5 k5 k6 h6 hG HVL hp2 HB5
        by_cases h0 : e2 = 0
        · subst h0
          have HCM2 := HCM.out
          rw [if_pos rfl] at HCM2
          have HWC : Hid (∀ W, BankAt W gb g { b with opn := false } → DevAt W g b1 b2 d2 → Calls Try.prog 108 #[.pointer (some ⟨gb, 0, none⟩), .func (.func 131) #[] #[]] W fun e w' => e = .returned (.int .i64 (progsH d2 (b.base + 1) (pairH 6 1668246893)).2) ∧ LeftB W w' gb g b1 b2 (progsH d2 (b.base + 1) (pairH 6 1668246893)).1 { b with opn := false }) := fun W hbw hdw =>
            bwrite_any gb g b1 b2 d2 { b with opn := false } W hbw hdw HOK.out.1 ((⟨HK.out.three, HK.out.fits, HK.out.words⟩ : BkOk d { b with opn := false }).dims HOK.out.2) _ _ (pairH 6 1668246893) (pairH_lt (by decide)) (fun W' _ => commits1_seq 8 W') (enters_of Try.func131 (by kernel_rfl) rfl)
          obtain ⟨d3, e3, hp3⟩ : ∃ d3 e3, progsH d2 (b.base + 1) (pairH 6 1668246893) = (d3, e3) := ⟨_, _, rfl⟩
          rw [hp3] at HWC HCM2
          dsimp only at HWC HCM2
          have HRS := Lib.hid HCM2
          clear HCM2 HCM hp3
          go_wp2_with (first
            | (refine wpList_load_agg rfl 68 (.tmp 5) rfl rfl (cs := [.int .u32 (q : Int), .int .u32 (b.pn : Int), .int .u32 (sm : Int)]) HA.out ?_ ?_; exact HH5.out)
            | (refine HWS.out.mono ?_; rintro e w6 ⟨rfl, rfl⟩)
            | (refine HWR.out.mono ?_; rintro e w7 ⟨rfl, hlf⟩; clear HWR HWS HH5))
          go_wp2_with (refine (HCS w7).out.mono ?_; rintro e w8 ⟨rfl, rfl⟩)
          go_wp2_with (refine (HWC.out w7 hlf.bank hlf.dev).mono ?_; rintro e w9 ⟨rfl, hlg⟩)
          go_ret
          rw [HRS.out]
          exact ⟨rfl, hlg.dev, hlg.bank, (HK6.out.trans hlf.keep (fun y hy _ => hy)).trans hlg.keep (fun y hy _ => hy)⟩
        · have HRS : Hid (res = (d2, { b with opn := false }, e2)) := by show _ = _; rw [HCM.out, if_neg h0]
          have q0 : (e2 == 0) = false := beq_eq_false_iff_ne.2 h0
          have q1 : (e2 = 0) = False := eq_false h0
          have q2 : (e2 != 0) = true := bne_iff_ne.2 h0
          clear HCM
          go_wp2_with (first
            | (refine wpList_load_agg rfl 68 (.tmp 5) rfl rfl (cs := [.int .u32 (q : Int), .int .u32 (b.pn : Int), .int .u32 (sm : Int)]) HA.out ?_ ?_; exact HH5.out)
            | (refine HWS.out.mono ?_; rintro e w6 ⟨rfl, rfl⟩)
            | (refine HWR.out.mono ?_; rintro e w7 ⟨rfl, hlf⟩))
          go_ret
          rw [HRS.out]
          exact ⟨rfl, hlf.dev, hlf.bank, HK6.out.trans hlf.keep (fun y hy _ => hy)⟩
end
end Go.Proofs.Yteanpgkonhdbpaa
