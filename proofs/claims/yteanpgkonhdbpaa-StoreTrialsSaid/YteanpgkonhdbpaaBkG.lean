/- bank.State, walked. Condition: the device is one that may be, the bank one that fits. bank.Image, walked. Condition: the device is one that may be, the bank one that fits. -/
import Derived.Test.YteanpgkonhdbpaaBkA
import Derived.Deep.DeepCutAuto
import Derived.Deep.CutRange
import Derived.Test.YteanpgkonhdbpaaBkI
namespace Go.Proofs.Yteanpgkonhdbpaa
open Go.RowKit

def secB (d : Dev) (b : BkS) (k : Nat) : List Nat := sectL d (b.base + k)
def stateB (d : Dev) (b : BkS) : HdS :=
  if voidB d b = true ∨ roomB d b < (headH (secB d b 1)).long then ⟨0, 0, 0, false, false, (headH (secB d b 1)).trials⟩ else headH (secB d b 1)
theorem sectL_lt {d : Dev} (ho : d.Ok) (σ : Nat) : ∀ x ∈ sectL d σ, x < 4294967296 := fun x hx => ho.bit x (List.mem_of_mem_drop (List.mem_of_mem_take hx))
theorem headH_long {l : List Nat} (h : ∀ x ∈ l, x < 4294967296) : (headH l).long < 4294967296 := by
  unfold headH
  dsimp only
  split
  · exact atH_lt h 2
  · decide
theorem headH_trials (l : List Nat) : (headH l).trials ≤ 3 := trialsH_le l 3

section
variable (gb g b1 b2 : Nat) (d : Dev) (b : BkS) (w : World) (hb : BankAt w gb g b) (hd : DevAt w g b1 b2 d) (ho : d.Ok) (hk : BkOk d b)
include hb hd ho hk
set_option maxRecDepth 100000 in
set_option maxHeartbeats 4000000 in
theorem bstate_any : Calls Try.prog 32 #[.pointer (some ⟨gb, 0, none⟩)] w fun e w' => e = .returned (.agg (hdCells (stateB d b)).toArray) ∧ Keep [] w w' := by
  have hns := ho.ns2
  have h3 := hk.three
  have hf := hk.fits
  have HA : Hid (AggOf Try.prog 70 6) := ⟨by kernel_rfl, by kernel_rfl⟩
  obtain ⟨w1, hw⟩ : ∃ w1, w.alloc (.cells #[.int .u32 0, .int .u32 0, .int .u32 0, .bool false, .bool false, .int .i64 0] 70) = w1 := ⟨_, rfl⟩
  have k1 : Keep [] w w1 := by rw [← hw]; exact (Keep.refl [] w).alloc _
  have B2 : Blk w1 w.heap.size 70 #[.int .u32 0, .int .u32 0, .int .u32 0, .bool false, .bool false, .int .i64 0] := by rw [← hw]; exact Blk.new _ _ _
  have HW := Lib.hid hw
  have HB2 := Lib.hid B2
  have HK1 := Lib.hid k1
  have hG : ∀ W, Keep [] w1 W → W.cell? ⟨gb, 0, none⟩ = some (.pointer (some ⟨g, 0, none⟩)) ∧ W.cell? ⟨gb, 1, none⟩ = some (.int .i64 (b.base : Int)) ∧ True := fun W k => ⟨(hb.keep0 (HK1.out.then k)).cells.1, (hb.keep0 (HK1.out.then k)).cells.2.1, trivial⟩
  have HSE : Hid (∀ W, Keep [] w1 W → Calls Try.prog 39 #[.pointer (some ⟨g, 0, none⟩), .int .i64 ((b.base + 1 : Nat) : Int)] W (RetWords W (secB d b 1))) := fun W k => by
    have := fsector_any g b1 b2 d ((b.base + 1 : Nat) : Int) W (hd.keep0 (HK1.out.then k)) ho
    unfold sectS at this
    rw [if_pos (by omega)] at this
    exact this
  have HRD : Hid (∀ W A n c, (secB d b 1).length = n → Reads W 1 A n (wordsV (secB d b 1)) → Calls Try.prog 75 #[.slice A n c] W fun e w' => e = .returned (.agg (hdCells (headH (secB d b 1))).toArray) ∧ Keep [] W w') := fun W A n c hl hr => hread_any A n c (secB d b 1) W hl (sectL_lt ho _) hr
  have HVO : Hid (∀ W, Keep [] w1 W → Calls Try.prog 31 #[.pointer (some ⟨gb, 0, none⟩)] W fun e w' => e = .returned (.bool (voidB d b)) ∧ Keep [] W w') := fun W k => bvoid_any gb g b1 b2 d b W (hb.keep0 (HK1.out.then k)) (hd.keep0 (HK1.out.then k)) ho hk
  have HRO : Hid (∀ W, Keep [] w1 W → Calls Try.prog 30 #[.pointer (some ⟨gb, 0, none⟩)] W fun e w' => e = .returned (.int .i64 ((roomB d b : Nat) : Int)) ∧ Keep [] W w') := fun W k => broom_any gb g b1 b2 d b W (hb.keep0 (HK1.out.then k)) (hd.keep0 (HK1.out.then k)) ho hk
  have HST : Hid (stateB d b = if voidB d b = true ∨ roomB d b < (headH (secB d b 1)).long then ⟨0, 0, 0, false, false, (headH (secB d b 1)).trials⟩ else headH (secB d b 1)) := show _ = _ from rfl
  have hlg := headH_long (l := secB d b 1) (sectL_lt ho _)
  have hw1 : IntKind.i64.wrap ((b.base : Int) + 1) = ((b.base + 1 : Nat) : Int) := by rw [show (b.base : Int) + 1 = ((b.base + 1 : Nat) : Int) by omega]; exact IntWalk.i64_in _ (by omega)
  generalize stateB d b = st at *
  generalize headH (secB d b 1) = h at *
  generalize secB d b 1 = l at *
  generalize voidB d b = vb at *
  generalize roomB d b = rm at *
  clear hb hd ho hk hw k1 B2 hf
  go_enter Try.func32, Try.ntmps32
  go_upto_region 1 with (rw [HW.out])
  go_cut [3] from 4 (fun v3 wx => ∃ B3, v3 = .pointer (some ⟨B3, 0, none⟩) ∧ Blk wx B3 70 (hdCells h).toArray ∧ w1.heap.size ≤ B3 ∧ Keep [] w1 wx)
  case first =>
    refine ap_begin 12 (Keep [] w1) rfl (Keep.refl _ _).drew (fun hS hPan => ?_) (fun _ _ d _ _ h => by cases d <;> exact h)
    (refine ap_val (v := ?_) 0 rfl (by kernel_rfl) (by kernel_rfl) (by kernel_rfl) (by kernel_rfl) (by rfl) hPan ?_ hS ?_; rotate_left; (intro w' hSw; go_simp; try with_reducible rfl); simp only [Act.put, List.setIfInBounds_toArray, List.set_cons_zero, List.set_cons_succ])
    (refine ap_val (v := ?_) 1 rfl (by kernel_rfl) (by kernel_rfl) (by kernel_rfl) (by kernel_rfl) (by rfl) hPan ?_ hS ?_; rotate_left; (intro w' hSw; go_simp; try with_reducible rfl); simp only [Act.put, List.setIfInBounds_toArray, List.set_cons_zero, List.set_cons_succ])
    (refine ap_val (v := ?_) 2 rfl (by kernel_rfl) (by kernel_rfl) (by kernel_rfl) (by kernel_rfl) (by rfl) hPan ?_ hS ?_; rotate_left; (intro w' hSw; go_simp; try with_reducible rfl); simp only [Act.put, List.setIfInBounds_toArray, List.set_cons_zero, List.set_cons_succ])
    (refine ap_val (v := ?_) 3 rfl (by kernel_rfl) (by kernel_rfl) (by kernel_rfl) (by kernel_rfl) (by rfl) hPan ?_ hS ?_; rotate_left; (intro w' hSw; obtain ⟨f0,f1,f2⟩ := hG w' hSw; go_simp; try with_reducible rfl); simp only [Act.put, List.setIfInBounds_toArray, List.set_cons_zero, List.set_cons_succ])
    (refine ap_val (v := ?_) 4 rfl (by kernel_rfl) (by kernel_rfl) (by kernel_rfl) (by kernel_rfl) (by rfl) hPan ?_ hS ?_; rotate_left; (intro w' hSw; go_simp; try with_reducible rfl); simp only [Act.put, List.setIfInBounds_toArray, List.set_cons_zero, List.set_cons_succ])
    (refine ap_val (v := ?_) 5 rfl (by kernel_rfl) (by kernel_rfl) (by kernel_rfl) (by kernel_rfl) (by rfl) hPan ?_ hS ?_; rotate_left; (intro w' hSw; go_simp; try with_reducible rfl); simp only [Act.put, List.setIfInBounds_toArray, List.set_cons_zero, List.set_cons_succ])
    (refine ap_val (v := ?_) 6 rfl (by kernel_rfl) (by kernel_rfl) (by kernel_rfl) (by kernel_rfl) (by rfl) hPan ?_ hS ?_; rotate_left; (intro w' hSw; go_simp; try with_reducible rfl); simp only [Act.put, List.setIfInBounds_toArray, List.set_cons_zero, List.set_cons_succ])
    (refine ap_val (v := ?_) 7 rfl (by kernel_rfl) (by kernel_rfl) (by kernel_rfl) (by kernel_rfl) (by rfl) hPan ?_ hS ?_; rotate_left; (intro w' hSw; obtain ⟨f0,f1,f2⟩ := hG w' hSw; go_simp; try with_reducible rfl); simp only [Act.put, List.setIfInBounds_toArray, List.set_cons_zero, List.set_cons_succ])
    (refine ap_val (v := ?_) 8 rfl (by kernel_rfl) (by kernel_rfl) (by kernel_rfl) (by kernel_rfl) (by rfl) hPan ?_ hS ?_; rotate_left; (intro w' hSw; go_simp; try with_reducible rfl); simp only [Act.put, List.setIfInBounds_toArray, List.set_cons_zero, List.set_cons_succ])
    generalize w1.drew = wd at *
    refine ap_twoJ 9 11 (by kernel_rfl) ?ta ?tb
    case ta =>
      refine op_call (f := 39) (vs := #[.pointer (some ⟨g, 0, none⟩), .int .i64 ((b.base + 1 : Nat) : Int)]) 9 rfl (by kernel_rfl) rfl (by simp only [List.map_toArray, List.map_cons, List.map_nil]; rfl) Try.func39 (by kernel_rfl) (by kernel_rfl) (HSE.out wd hS) ?_
      rintro e ws ⟨A, c, rfl, hown, ks⟩
      have kS : Keep [] w1 ws := hS.then ks
      have hrd := Reads.of_own hown
      refine ⟨_, rfl, fun _ => kS, ?_⟩
      (simp only [Act.put, List.setIfInBounds_toArray, List.set_cons_zero, List.set_cons_succ])
      refine ap_twoJ 10 11 (by kernel_rfl) ?ta1 ?ta2
      case ta1 =>
        refine op_call (f := 75) (vs := #[.slice A l.length c]) 10 rfl (by kernel_rfl) rfl (by simp only [List.map_toArray, List.map_cons, List.map_nil]; rfl) Try.func75 (by kernel_rfl) (by kernel_rfl) (HRD.out ws A l.length c rfl hrd) ?_
        rintro e wr ⟨rfl, kr⟩
        have kR : Keep [] w1 wr := kS.then kr
        refine ⟨_, rfl, fun _ => kR, ?_⟩
        (simp only [Act.put, List.setIfInBounds_toArray, List.set_cons_zero, List.set_cons_succ])
        refine ap_one 11 (by kernel_rfl) ?_
        refine op_run (v := .pointer (some ⟨wr.heap.size, 0, none⟩)) (w' := wr.alloc (.cells #[.int .u32 0, .int .u32 0, .int .u32 0, .bool false, .bool false, .int .i64 0] 70)) 11 rfl (by kernel_rfl) (by go_simp) ?_
        have hbn := Blk.new wr 70 #[.int .u32 0, .int .u32 0, .int .u32 0, .bool false, .bool false, .int .i64 0]
        have kal : Keep [] w1 (wr.alloc (.cells #[.int .u32 0, .int .u32 0, .int .u32 0, .bool false, .bool false, .int .i64 0] 70)) := kR.alloc _
        have hll : w1.heap.size ≤ wr.heap.size := kR.size
        have ka0 : Keep [] wr (wr.alloc (.cells #[.int .u32 0, .int .u32 0, .int .u32 0, .bool false, .bool false, .int .i64 0] 70)) := (Keep.refl [] wr).alloc _
        refine ⟨fun _ => kal, ?_⟩
        (simp only [Act.put, List.setIfInBounds_toArray, List.set_cons_zero, List.set_cons_succ])
        generalize wr.alloc (.cells #[.int .u32 0, .int .u32 0, .int .u32 0, .bool false, .bool false, .int .i64 0] 70) = wz at *
        generalize wr.heap.size = B3 at *
        have HBZ := Lib.hid hbn
        have HKZ := Lib.hid kal
        have HLZ := Lib.hid hll
        clear hbn kal hll ka0 hown hrd ks kr kS kR
        refine ap_one 12 (by kernel_rfl) ?_
        refine op_store_all (t := 70) (cs := #[.int .u32 0, .int .u32 0, .int .u32 0, .bool false, .bool false, .int .i64 0]) (vs := hdCells h) 12 rfl (by kernel_rfl) rfl rfl rfl HA.out.2 HBZ.out (by simp [Value.oneCell']) rfl ?_
        intro w9 d9 k9
        refine ⟨fun h => (by cases h), ap_done (by kernel_rfl) ?_ _⟩
        (simp only [Act.put])
        have HD9 := Lib.hid d9
        have HS9 : Hid (Keep [] w1 w9) := HKZ.out.trans k9 (fun y hy hl => by have := HLZ.out; simp only [List.mem_cons, List.not_mem_nil, or_false] at hy; omega)
        have HL9 := HLZ
        clear k9 d9 hS hPan hG HBZ HKZ
        go_wp2_with fail
        go_meet
        case rel => exact ⟨_, rfl, HD9.out, HL9.out, HS9.out⟩
      case ta2 =>
        refine op_run (v := .pointer (some ⟨ws.heap.size, 0, none⟩)) (w' := ws.alloc (.cells #[.int .u32 0, .int .u32 0, .int .u32 0, .bool false, .bool false, .int .i64 0] 70)) 11 rfl (by kernel_rfl) (by go_simp) ?_
        have hbn := Blk.new ws 70 #[.int .u32 0, .int .u32 0, .int .u32 0, .bool false, .bool false, .int .i64 0]
        have kal : Keep [] w1 (ws.alloc (.cells #[.int .u32 0, .int .u32 0, .int .u32 0, .bool false, .bool false, .int .i64 0] 70)) := kS.alloc _
        have hll : w1.heap.size ≤ ws.heap.size := kS.size
        have ka0 : Keep [] ws (ws.alloc (.cells #[.int .u32 0, .int .u32 0, .int .u32 0, .bool false, .bool false, .int .i64 0] 70)) := (Keep.refl [] ws).alloc _
        refine ⟨fun _ => kal, ?_⟩
        (simp only [Act.put, List.setIfInBounds_toArray, List.set_cons_zero, List.set_cons_succ])
        generalize ws.alloc (.cells #[.int .u32 0, .int .u32 0, .int .u32 0, .bool false, .bool false, .int .i64 0] 70) = wa at *
        generalize ws.heap.size = B3 at *
        refine ap_one 10 (by kernel_rfl) ?_
        refine op_call (f := 75) (vs := #[.slice A l.length c]) 10 rfl (by kernel_rfl) rfl (by simp only [List.map_toArray, List.map_cons, List.map_nil]; rfl) Try.func75 (by kernel_rfl) (by kernel_rfl) (HRD.out wa A l.length c rfl (hrd.keep0 ka0)) ?_
        rintro e wz ⟨rfl, kr⟩
        have kR : Keep [] w1 wz := kal.then kr
        refine ⟨_, rfl, fun _ => kR, ?_⟩
        (simp only [Act.put, List.setIfInBounds_toArray, List.set_cons_zero, List.set_cons_succ])
        have HBZ := Lib.hid (hbn.keep0 kr)
        have HKZ := Lib.hid kR
        have HLZ := Lib.hid hll
        clear hbn kal hll ka0 hown hrd ks kr kS kR
        refine ap_one 12 (by kernel_rfl) ?_
        refine op_store_all (t := 70) (cs := #[.int .u32 0, .int .u32 0, .int .u32 0, .bool false, .bool false, .int .i64 0]) (vs := hdCells h) 12 rfl (by kernel_rfl) rfl rfl rfl HA.out.2 HBZ.out (by simp [Value.oneCell']) rfl ?_
        intro w9 d9 k9
        refine ⟨fun h => (by cases h), ap_done (by kernel_rfl) ?_ _⟩
        (simp only [Act.put])
        have HD9 := Lib.hid d9
        have HS9 : Hid (Keep [] w1 w9) := HKZ.out.trans k9 (fun y hy hl => by have := HLZ.out; simp only [List.mem_cons, List.not_mem_nil, or_false] at hy; omega)
        have HL9 := HLZ
        clear k9 d9 hS hPan hG HBZ HKZ
        go_wp2_with fail
        go_meet
        case rel => exact ⟨_, rfl, HD9.out, HL9.out, HS9.out⟩
    case tb =>
      refine op_run (v := .pointer (some ⟨wd.heap.size, 0, none⟩)) (w' := wd.alloc (.cells #[.int .u32 0, .int .u32 0, .int .u32 0, .bool false, .bool false, .int .i64 0] 70)) 11 rfl (by kernel_rfl) (by go_simp) ?_
      have hbn := Blk.new wd 70 #[.int .u32 0, .int .u32 0, .int .u32 0, .bool false, .bool false, .int .i64 0]
      have kal : Keep [] w1 (wd.alloc (.cells #[.int .u32 0, .int .u32 0, .int .u32 0, .bool false, .bool false, .int .i64 0] 70)) := hS.alloc _
      have hll : w1.heap.size ≤ wd.heap.size := hS.size
      have ka0 : Keep [] wd (wd.alloc (.cells #[.int .u32 0, .int .u32 0, .int .u32 0, .bool false, .bool false, .int .i64 0] 70)) := (Keep.refl [] wd).alloc _
      refine ⟨fun _ => kal, ?_⟩
      (simp only [Act.put, List.setIfInBounds_toArray, List.set_cons_zero, List.set_cons_succ])
      generalize wd.alloc (.cells #[.int .u32 0, .int .u32 0, .int .u32 0, .bool false, .bool false, .int .i64 0] 70) = wa at *
      generalize wd.heap.size = B3 at *
      refine ap_one 9 (by kernel_rfl) ?_
      refine op_call (f := 39) (vs := #[.pointer (some ⟨g, 0, none⟩), .int .i64 ((b.base + 1 : Nat) : Int)]) 9 rfl (by kernel_rfl) rfl (by simp only [List.map_toArray, List.map_cons, List.map_nil]; rfl) Try.func39 (by kernel_rfl) (by kernel_rfl) (HSE.out wa kal) ?_
      rintro e ws ⟨A, c, rfl, hown, ks⟩
      have kS : Keep [] w1 ws := kal.then ks
      have hrd := Reads.of_own hown
      refine ⟨_, rfl, fun _ => kS, ?_⟩
      (simp only [Act.put, List.setIfInBounds_toArray, List.set_cons_zero, List.set_cons_succ])
      refine ap_one 10 (by kernel_rfl) ?_
      refine op_call (f := 75) (vs := #[.slice A l.length c]) 10 rfl (by kernel_rfl) rfl (by simp only [List.map_toArray, List.map_cons, List.map_nil]; rfl) Try.func75 (by kernel_rfl) (by kernel_rfl) (HRD.out ws A l.length c rfl hrd) ?_
      rintro e wz ⟨rfl, kr⟩
      have kR : Keep [] w1 wz := kS.then kr
      refine ⟨_, rfl, fun _ => kR, ?_⟩
      (simp only [Act.put, List.setIfInBounds_toArray, List.set_cons_zero, List.set_cons_succ])
      have HBZ := Lib.hid ((hbn.keep0 ks).keep0 kr)
      have HKZ := Lib.hid kR
      have HLZ := Lib.hid hll
      clear hbn kal hll ka0 hown hrd ks kr kS kR
      refine ap_one 12 (by kernel_rfl) ?_
      refine op_store_all (t := 70) (cs := #[.int .u32 0, .int .u32 0, .int .u32 0, .bool false, .bool false, .int .i64 0]) (vs := hdCells h) 12 rfl (by kernel_rfl) rfl rfl rfl HA.out.2 HBZ.out (by simp [Value.oneCell']) rfl ?_
      intro w9 d9 k9
      refine ⟨fun h => (by cases h), ap_done (by kernel_rfl) ?_ _⟩
      (simp only [Act.put])
      have HD9 := Lib.hid d9
      have HS9 : Hid (Keep [] w1 w9) := HKZ.out.trans k9 (fun y hy hl => by have := HLZ.out; simp only [List.mem_cons, List.not_mem_nil, or_false] at hy; omega)
      have HL9 := HLZ
      clear k9 d9 hS hPan hG HBZ HKZ
      go_wp2_with fail
      go_meet
      case rel => exact ⟨_, rfl, HD9.out, HL9.out, HS9.out⟩
  case rest =>
    obtain ⟨B3, rfl, hb3, hlo, k19⟩ := hcut
    generalize wc = w9 at *
    have HB3 := Lib.hid hb3
    have HK9 := Lib.hid k19
    have HB29 := Lib.hid (HB2.out.keep0 k19)
    have hF2 : ∀ W, Keep [] w9 W → W.cell? ⟨B3, 1, none⟩ = some (.int .u32 (h.long : Int)) ∧ True ∧ True := fun W k => ⟨(HB3.out.keep0 k).cell 1, trivial, trivial⟩
    have HVO9 : Hid (∀ W, Keep [] w9 W → Calls Try.prog 31 #[.pointer (some ⟨gb, 0, none⟩)] W fun e w' => e = .returned (.bool vb) ∧ Keep [] w9 w') := fun W k => (HVO.out W (HK9.out.then k)).mono fun e w' he => ⟨he.1, k.then he.2⟩
    have HRO9 : Hid (∀ W, Keep [] w9 W → Calls Try.prog 30 #[.pointer (some ⟨gb, 0, none⟩)] W fun e w' => e = .returned (.int .i64 (rm : Int)) ∧ Keep [] w9 w') := fun W k => (HRO.out W (HK9.out.then k)).mono fun e w' he => ⟨he.1, k.then he.2⟩
    have hlw : w.heap.size ≠ B3 := by have := HB2.out.lt; omega
    have u1 : IntKind.i64.wrap (h.long : Int) = (h.long : Int) := IntWalk.i64_in _ (by omega)
    clear hb3 k19 HVO HRO HSE HRD hG hlo
    cases vb with
    | true =>
      have HST2 : Hid (st = ⟨0, 0, 0, false, false, h.trials⟩) := by show _ = _; rw [HST.out, if_pos (.inl rfl)]
      go_upto_region 2 with fail
      refine wp_region_flow (Keep [] w9) rfl (by kernel_rfl) (Keep.refl _ _).drew ?_
      (refine fl_val (v := ?_) (by rfl) ?_ ?_; rotate_left; (intro w' hS; obtain ⟨f0,f1,f2⟩ := hF2 w' hS; go_simp; with_reducible rfl); simp only [Act.put, List.setIfInBounds_toArray, List.set_cons_zero, List.set_cons_succ])
      refine fl_call (f := 31) (v := .bool true) (by rfl) rfl (by simp only [List.map_toArray, List.map_cons, List.map_nil]; rfl) Try.func31 (by kernel_rfl) (by kernel_rfl) (fun w' hS => ((HVO9.out w' hS))) ?_; simp only [Act.put, List.setIfInBounds_toArray, List.set_cons_zero, List.set_cons_succ]
      (refine fl_val (v := ?_) (by rfl) ?_ ?_; rotate_left; (intro w' hS; obtain ⟨f0,f1,f2⟩ := hF2 w' hS; go_simp; with_reducible rfl); simp only [Act.put, List.setIfInBounds_toArray, List.set_cons_zero, List.set_cons_succ])
      iterate 7 (refine fl_off (by rfl) ?_; simp only [Act.put, List.setIfInBounds_toArray, List.set_cons_zero, List.set_cons_succ])
      (refine fl_val (v := ?_) (by rfl) ?_ ?_; rotate_left; (intro w' hS; obtain ⟨f0,f1,f2⟩ := hF2 w' hS; go_simp; with_reducible rfl); simp only [Act.put, List.setIfInBounds_toArray, List.set_cons_zero, List.set_cons_succ])
      refine fl_nil ?_
      intro w10 hS
      have c35 : w10.cell? ⟨B3, 5, none⟩ = some (.int .i64 (h.trials : Int)) := (HB3.out.keep0 hS).cell 5
      have hb2 := HB29.out.keep0 hS
      have HKS := Lib.hid (HK9.out.then hS)
      clear hS hF2 HVO9 HRO9
      go_wp2_with (refine stop_store 70 (.tmp 2) (.tmp 28) rfl ?_)
      constructor
      refine wpList_store_all rfl 70 (.tmp 2) (.tmp 28) rfl rfl rfl (t := 70) (cs := #[.int .u32 0, .int .u32 0, .int .u32 0, .bool false, .bool false, .int .i64 0]) (vs := hdCells ⟨0, 0, 0, false, false, h.trials⟩) HA.out.2 hb2 (by simp [Value.oneCell']) rfl ?_
      intro w12 d12 k12
      have HD := Lib.hid d12
      have HKF : Hid (Keep [] w w12) := (HK1.out.then HKS.out).trans k12 (fun y hy hl => by simp only [List.mem_cons, List.not_mem_nil, or_false] at hy; omega)
      clear d12 k12 hb2
      go_wp2
      refine bodyPost_ret (results_blk rfl _ rfl (vs := hdCells ⟨0, 0, 0, false, false, h.trials⟩) HD.out HA.out) rfl ?_
      rw [HST2.out]
      exact ⟨rfl, HKF.out⟩
    | false =>
      by_cases hgt : rm < h.long
      · have HST2 : Hid (st = ⟨0, 0, 0, false, false, h.trials⟩) := by show _ = _; rw [HST.out, if_pos (.inr hgt)]
        have q0 : decide ((rm : Int) < (h.long : Int)) = true := decide_eq_true (by omega)
        have p0 := eq_true hgt
        go_upto_region 2 with fail
        refine wp_region_flow (Keep [] w9) rfl (by kernel_rfl) (Keep.refl _ _).drew ?_
        (refine fl_val (v := ?_) (by rfl) ?_ ?_; rotate_left; (intro w' hS; obtain ⟨f0,f1,f2⟩ := hF2 w' hS; go_simp; with_reducible rfl); simp only [Act.put, List.setIfInBounds_toArray, List.set_cons_zero, List.set_cons_succ])
        refine fl_call (f := 31) (v := .bool false) (by rfl) rfl (by simp only [List.map_toArray, List.map_cons, List.map_nil]; rfl) Try.func31 (by kernel_rfl) (by kernel_rfl) (fun w' hS => ((HVO9.out w' hS))) ?_; simp only [Act.put, List.setIfInBounds_toArray, List.set_cons_zero, List.set_cons_succ]
        iterate 6 (refine fl_val (v := ?_) (by rfl) ?_ ?_; rotate_left; (intro w' hS; obtain ⟨f0,f1,f2⟩ := hF2 w' hS; go_simp; with_reducible rfl); simp only [Act.put, List.setIfInBounds_toArray, List.set_cons_zero, List.set_cons_succ])
        refine fl_call (f := 30) (v := .int .i64 (rm : Int)) (by rfl) rfl (by simp only [List.map_toArray, List.map_cons, List.map_nil]; rfl) Try.func30 (by kernel_rfl) (by kernel_rfl) (fun w' hS => ((HRO9.out w' hS))) ?_; simp only [Act.put, List.setIfInBounds_toArray, List.set_cons_zero, List.set_cons_succ]
        (refine fl_val (v := ?_) (by rfl) ?_ ?_; rotate_left; (intro w' hS; obtain ⟨f0,f1,f2⟩ := hF2 w' hS; go_simp; with_reducible rfl); simp only [Act.put, List.setIfInBounds_toArray, List.set_cons_zero, List.set_cons_succ])
        (refine fl_val (v := ?_) (by rfl) ?_ ?_; rotate_left; (intro w' hS; obtain ⟨f0,f1,f2⟩ := hF2 w' hS; go_simp; with_reducible rfl); simp only [Act.put, List.setIfInBounds_toArray, List.set_cons_zero, List.set_cons_succ])
        refine fl_nil ?_
        intro w10 hS
        have c35 : w10.cell? ⟨B3, 5, none⟩ = some (.int .i64 (h.trials : Int)) := (HB3.out.keep0 hS).cell 5
        have hb2 := HB29.out.keep0 hS
        have HKS := Lib.hid (HK9.out.then hS)
        clear hS hF2 HVO9 HRO9
        go_wp2_with (refine stop_store 70 (.tmp 2) (.tmp 28) rfl ?_)
        constructor
        refine wpList_store_all rfl 70 (.tmp 2) (.tmp 28) rfl rfl rfl (t := 70) (cs := #[.int .u32 0, .int .u32 0, .int .u32 0, .bool false, .bool false, .int .i64 0]) (vs := hdCells ⟨0, 0, 0, false, false, h.trials⟩) HA.out.2 hb2 (by simp [Value.oneCell']) rfl ?_
        intro w12 d12 k12
        have HD := Lib.hid d12
        have HKF : Hid (Keep [] w w12) := (HK1.out.then HKS.out).trans k12 (fun y hy hl => by simp only [List.mem_cons, List.not_mem_nil, or_false] at hy; omega)
        clear d12 k12 hb2
        go_wp2
        refine bodyPost_ret (results_blk rfl _ rfl (vs := hdCells ⟨0, 0, 0, false, false, h.trials⟩) HD.out HA.out) rfl ?_
        rw [HST2.out]
        exact ⟨rfl, HKF.out⟩
      · have HST2 : Hid (st = h) := by show _ = _; rw [HST.out, if_neg (by simp [hgt])]
        have q0 : decide ((rm : Int) < (h.long : Int)) = false := decide_eq_false (by omega)
        have p0 := eq_false hgt
        go_upto_region 2 with fail
        refine wp_region_flow (Keep [] w9) rfl (by kernel_rfl) (Keep.refl _ _).drew ?_
        (refine fl_val (v := ?_) (by rfl) ?_ ?_; rotate_left; (intro w' hS; obtain ⟨f0,f1,f2⟩ := hF2 w' hS; go_simp; with_reducible rfl); simp only [Act.put, List.setIfInBounds_toArray, List.set_cons_zero, List.set_cons_succ])
        refine fl_call (f := 31) (v := .bool false) (by rfl) rfl (by simp only [List.map_toArray, List.map_cons, List.map_nil]; rfl) Try.func31 (by kernel_rfl) (by kernel_rfl) (fun w' hS => ((HVO9.out w' hS))) ?_; simp only [Act.put, List.setIfInBounds_toArray, List.set_cons_zero, List.set_cons_succ]
        iterate 6 (refine fl_val (v := ?_) (by rfl) ?_ ?_; rotate_left; (intro w' hS; obtain ⟨f0,f1,f2⟩ := hF2 w' hS; go_simp; with_reducible rfl); simp only [Act.put, List.setIfInBounds_toArray, List.set_cons_zero, List.set_cons_succ])
        refine fl_call (f := 30) (v := .int .i64 (rm : Int)) (by rfl) rfl (by simp only [List.map_toArray, List.map_cons, List.map_nil]; rfl) Try.func30 (by kernel_rfl) (by kernel_rfl) (fun w' hS => ((HRO9.out w' hS))) ?_; simp only [Act.put, List.setIfInBounds_toArray, List.set_cons_zero, List.set_cons_succ]
        (refine fl_val (v := ?_) (by rfl) ?_ ?_; rotate_left; (intro w' hS; obtain ⟨f0,f1,f2⟩ := hF2 w' hS; go_simp; with_reducible rfl); simp only [Act.put, List.setIfInBounds_toArray, List.set_cons_zero, List.set_cons_succ])
        (refine fl_val (v := ?_) (by rfl) ?_ ?_; rotate_left; (intro w' hS; obtain ⟨f0,f1,f2⟩ := hF2 w' hS; go_simp; with_reducible rfl); simp only [Act.put, List.setIfInBounds_toArray, List.set_cons_zero, List.set_cons_succ])
        refine fl_nil ?_
        intro w10 hS
        have hb3 := HB3.out.keep0 hS
        have hb2 := HB29.out.keep0 hS
        have HKS := Lib.hid (HK9.out.then hS)
        clear hS hF2 HVO9 HRO9
        go_wp2_with (first
          | (refine wpList_load_agg rfl 70 (.tmp 3) rfl rfl (cs := hdCells h) HA.out ?_ ?_; exact hb3.cellsAt)
          | (refine stop_store 70 (.tmp 2) (.tmp 29) rfl ?_))
        constructor
        refine wpList_store_all rfl 70 (.tmp 2) (.tmp 29) rfl rfl rfl (t := 70) (cs := #[.int .u32 0, .int .u32 0, .int .u32 0, .bool false, .bool false, .int .i64 0]) (vs := hdCells h) HA.out.2 hb2 (by simp [Value.oneCell']) rfl ?_
        intro w12 d12 k12
        have HD := Lib.hid d12
        have HKF : Hid (Keep [] w w12) := (HK1.out.then HKS.out).trans k12 (fun y hy hl => by simp only [List.mem_cons, List.not_mem_nil, or_false] at hy; omega)
        clear d12 k12 hb2 hb3
        go_wp2
        refine bodyPost_ret (results_blk rfl _ rfl (vs := hdCells h) HD.out HA.out) rfl ?_
        rw [HST2.out]
        exact ⟨rfl, HKF.out⟩
end
end Go.Proofs.Yteanpgkonhdbpaa

namespace Go.Proofs.Yteanpgkonhdbpaa
open Go.RowKit
attribute [local go_sem] Oper.semAt_some

def imageB (d : Dev) (b : BkS) : Option (List Nat) :=
  if (stateB d b).valid = true ∧ d.on = true ∧ crcL (dataB d b (stateB d b).long) = (stateB d b).check then some (dataB d b (stateB d b).long) else none
def RetImg (w : World) (r : Option (List Nat)) (e : Ending) (w' : World) : Prop :=
  match r with
  | none => e = .returned (.tuple #[.slice none 0 0, .bool false]) ∧ Keep [] w w'
  | some l => ∃ A c, e = .returned (.tuple #[.slice A l.length c, .bool true]) ∧ w'.ownsRow w.heap.size 33 1 (.slice A l.length c) l.length (wordsV l) ∧ Keep [] w w'
theorem stateB_long {d : Dev} (ho : d.Ok) {b : BkS} : (stateB d b).long ≤ roomB d b ∧ (stateB d b).long < 4294967296 ∧ (stateB d b).check < 4294967296 := by
  unfold stateB
  split
  · exact ⟨Nat.zero_le _, by show 0 < 4294967296; decide, by show 0 < 4294967296; decide⟩
  · rename_i h
    refine ⟨by omega, headH_long (sectL_lt ho _), ?_⟩
    unfold headH
    dsimp only
    split
    · exact atH_lt (sectL_lt ho _) 4
    · decide

section
variable (gb g b1 b2 : Nat) (d : Dev) (b : BkS) (w : World) (hb : BankAt w gb g b) (hd : DevAt w g b1 b2 d) (ho : d.Ok) (hk : BkOk d b)
include hb hd ho hk
set_option maxRecDepth 100000 in
set_option maxHeartbeats 4000000 in
theorem bimage_any : Calls Try.prog 29 #[.pointer (some ⟨gb, 0, none⟩)] w (RetImg w (imageB d b)) := by
  have hA : AggOf Try.prog 70 6 := ⟨by kernel_rfl, by kernel_rfl⟩
  have HST := Lib.hid (bstate_any gb g b1 b2 d b w hb hd ho hk)
  obtain ⟨hl1, hl2, hl3⟩ := stateB_long ho (b := b)
  have HIM : Hid (imageB d b = if (stateB d b).valid = true ∧ d.on = true ∧ crcL (dataB d b (stateB d b).long) = (stateB d b).check then some (dataB d b (stateB d b).long) else none) := show _ = _ from rfl
  have hrm : roomB d b ≤ (b.many - 2) * d.nw ∧ roomB d b ≤ 4096 := ⟨Nat.min_le_left _ _, Nat.min_le_right _ _⟩
  obtain ⟨st, hst⟩ : ∃ st, stateB d b = st := ⟨_, rfl⟩
  rw [hst] at HST hl1 hl2 hl3 HIM
  generalize imageB d b = im at *
  clear hst
  rw [← callsIn_wide (n := 9)]
  refine callsIn_of_wp_marks Try.func29 rfl trivial ?_ rfl
  simp only [Try.ntmps29, List.size_toArray, List.length_cons, List.length_nil, Nat.reduceAdd, Nat.reduceSub, Array.replicate_succ, Array.replicate_zero, List.push_toArray, List.append_toArray, List.nil_append, List.cons_append]
  gi_wp2_with (first
    | (refine ⟨trivial, ?_⟩; refine (callsIn_wide.2 HST.out).mono ?_; rintro e w1 ⟨rfl, k1⟩)
    | (refine stopIn_store 70 (.tmp 4) (.tmp 9) rfl ?_))
  constructor
  refine wpListIn_store_all rfl 70 (.tmp 4) (.tmp 9) rfl rfl rfl (vs := hdCells st) hA.2 (Blk.new _ _ _) (by simp [Value.oneCell']) rfl ?_
  intro w2 d2 k2
  have k12 : Keep [] w1 w2 := ((Keep.refl [] w1).alloc _).trans k2 (fun y hy h => by simp only [List.mem_cons, List.not_mem_nil, or_false] at hy; omega)
  have K02 := k1.then k12
  have c43 : w2.cell? ⟨w1.heap.size, 3, none⟩ = some (.bool st.valid) := d2.cell 3
  have c41 : w2.cell? ⟨w1.heap.size, 1, none⟩ = some (.int .u32 (st.long : Int)) := d2.cell 1
  have cg := (hb.keep0 K02).cells.1
  have HB4 := Lib.hid d2
  have HON := Lib.hid (fon_any g b1 b2 d w2 (hd.keep0 K02))
  have HKK := Lib.hid K02
  clear k1 k2 k12 d2 K02 HST
  generalize w1.heap.size = B4 at *
  cases hv : st.valid with
  | false =>
    rw [hv] at c43
    have HR : Hid (im = none) := by show _ = _; rw [HIM.out, if_neg (by rw [hv]; simp)]
    gi_wp2_with (refine ⟨trivial, ?_⟩; go_at_K)
    refine leavesM_marksB [] w2 List.nodup_nil (fun D hD => absurd hD (by simp)) (fun W' hk => ?_)
    rw [HR.out]
    exact ⟨_, by simp [results, Try.results29, go_sem], rfl, HKK.out.then hk⟩
  | true =>
    rw [hv] at c43
    cases hon : d.on with
    | false =>
      rw [hon] at HON
      have HR : Hid (im = none) := by show _ = _; rw [HIM.out, if_neg (by rw [hon]; simp)]
      gi_wp2_with (refine ⟨trivial, ?_⟩; refine (callsIn_wide.2 HON.out).mono ?_; rintro e w3 ⟨rfl, rfl⟩)
      refine leavesM_marksB [] w2 List.nodup_nil (fun D hD => absurd hD (by simp)) (fun W' hk => ?_)
      rw [HR.out]
      exact ⟨_, by simp [results, Try.results29, go_sem], rfl, HKK.out.then hk⟩
    | true =>
      rw [hon] at HON
      have c41' : ((w2.alloc (.cells #[.slice none 0 0] 54)).alloc (.cells #[.int .u32 0, .int .i64 0] 126)).cell? ⟨B4, 1, none⟩ = some (.int .u32 (st.long : Int)) := ((HB4.out.alloc _).alloc _).cell 1
      have u1 : IntKind.i64.wrap (st.long : Int) = (st.long : Int) := IntWalk.i64_in _ (by omega)
      gi_wp2_with (first
        | (refine ⟨trivial, ?_⟩; refine (callsIn_wide.2 HON.out).mono ?_; rintro e w3 ⟨rfl, rfl⟩)
        | (refine ⟨trivial, ?_⟩; refine (callsIn_wide.2 (words_any8 gb (st.long : Int) _)).mono ?_; rintro e w3 ⟨rfl, rfl⟩))
      obtain ⟨W1, hW1⟩ : ∃ W1, (((w2.alloc (.cells #[.slice none 0 0] 54)).alloc (.cells #[.int .u32 0, .int .i64 0] 126)).alloc (.cells #[.pointer (some ⟨gb, 0, none⟩)] 60)).alloc (.cells #[.int .i64 (st.long : Int)] 3) = W1 := ⟨_, rfl⟩
      have K21 : Keep [] w2 W1 := by rw [← hW1]; exact ((((Keep.refl [] w2).alloc _).alloc _).alloc _).alloc _
      have e5 : Blk W1 w2.heap.size 54 #[.slice none 0 0] := by rw [← hW1]; exact (((Blk.new _ _ _).alloc _).alloc _).alloc _
      have e6 : Blk W1 (w2.heap.size + 1) 126 #[.int .u32 0, .int .i64 0] := by
        rw [← hW1]
        exact Blk.alloc (Blk.alloc (by have h := Blk.new (w2.alloc (.cells #[.slice none 0 0] 54)) 126 #[.int .u32 0, .int .i64 0]; simpa using h) _) _
      have e7 : Blk W1 (w2.heap.size + 1 + 1) 60 #[.pointer (some ⟨gb, 0, none⟩)] := by
        rw [← hW1]
        exact Blk.alloc (by have h := Blk.new ((w2.alloc (.cells #[.slice none 0 0] 54)).alloc (.cells #[.int .u32 0, .int .i64 0] 126)) 60 #[.pointer (some ⟨gb, 0, none⟩)]; simpa using h) _
      have e8 : Blk W1 (w2.heap.size + 1 + 1 + 1) 3 #[.int .i64 (st.long : Int)] := by
        rw [← hW1]
        have h := Blk.new (((w2.alloc (.cells #[.slice none 0 0] 54)).alloc (.cells #[.int .u32 0, .int .i64 0] 126)).alloc (.cells #[.pointer (some ⟨gb, 0, none⟩)] 60)) 3 #[.int .i64 (st.long : Int)]
        simpa using h
      have hz1 : W1.heap.size = w2.heap.size + 4 := by rw [← hW1]; simp
      have HKW := Lib.hid (HKK.out.then K21)
      have HB41 := Lib.hid (HB4.out.keep0 K21)
      have hb4lt := HB4.out.lt
      simp only [hW1]
      clear hW1 c41' c43 c41 cg HON
      have hseq := words1_seq8 8 gb g b1 b2 d b st.long (w2.heap.size + 1 + 1) (w2.heap.size + 1 + 1 + 1) W1 (hb.keep0 HKW.out) (hd.keep0 HKW.out) ho hk hon (by omega) e7 e8
      have hlts : ∀ x ∈ [w2.heap.size + 1 + 1, w2.heap.size + 1 + 1 + 1, gb, g, b1, b2], x < W1.heap.size ∧ x ≠ w2.heap.size ∧ x ≠ w2.heap.size + 1 := fun x hx => by
        have h1 := Blk.lt (hb.keep0 HKK.out)
        have h2 := (hd.keep0 HKK.out).dev.lt
        have h3 := (hd.keep0 HKK.out).bits.lt
        have h4 := (hd.keep0 HKK.out).worn.lt
        simp only [List.mem_cons, List.not_mem_nil, or_false] at hx
        omega
      have HLT := Lib.hid hlts
      have hdl : (dataB d b st.long).length = st.long := dataB_len ho hk (by omega)
      have hd32 : ∀ x ∈ dataB d b st.long, x < 4294967296 := fun x hx => ho.bit x (List.mem_of_mem_drop (List.mem_of_mem_take hx))
      have HCRC : Hid (crcL (dataB d b st.long) = cplJ (foldC 4294967295 (dataB d b st.long))) := show _ = _ from rfl
      have HIM2 : Hid (im = if crcL (dataB d b st.long) = st.check then some (dataB d b st.long) else none) := by
        show _ = _
        rw [HIM.out]
        simp [hv, hon]
      have hKS5 : w.heap.size ≤ w2.heap.size := HKK.out.size
      generalize hB5 : w2.heap.size = B5 at *
      generalize dataB d b st.long = L at *
      have H32 := Lib.hid hd32
      have HKL : Hid (Keep [] w2 W1) := K21
      have hL4 : L.length ≤ 4096 := by omega
      have hS0 : (#[.int .u32 0, .int .i64 0] : Array Value) = sumSet #[.int .u32 0, .int .i64 0] 0 4294967295 0 := by
        have h0 : cplJ 4294967295 = 0 := by decide
        unfold sumSet
        rw [h0]
        rfl
      have e6' : Blk W1 (B5 + 1) 126 (sumSet #[.int .u32 0, .int .i64 0] 0 4294967295 0) := by rw [← hS0]; exact e6
      have HDL := Lib.hid hdl
      have HK02 := HKK
      have HLO : Hid (w.heap.size ≤ B5 ∧ B4 < B5) := ⟨hKS5, hb4lt⟩
      clear hb hd ho hk hlts hdl hd32 HIM hrm K21 hS0 e6 e7 e8 HB4 HKK
      refine wpIn_rangeFunc_ownG (F := Fence.wide) (n := 9) (ps := #[28]) rfl (by omega) (gf := 111) (lb := #[.pointer (some ⟨B5 + 1 + 1 + 1, 0, none⟩), .pointer (some ⟨B5 + 1 + 1, 0, none⟩)]) rfl trivial (enters_of Try.func111 (by kernel_rfl) rfl)
        hseq.sub Same.trans (Same.turn (fun x hx => (HLT.out x hx).1)) (Below.refl _ _) (fun _ => rfl)
        (fun pre W => ∃ v, W.ownsRow W1.heap.size 33 1 v (outs pre).length (wordsV (outs pre)) ∧ Blk W B5 54 #[v] ∧ Blk W (B5 + 1) 126 (sumSet #[.int .u32 0, .int .i64 0] 0 (foldC 4294967295 (outs pre)) ((outs pre).length * 4)) ∧ Keep [B5, B5 + 1] W1 W)
        (fun _ _ _ => False)
        ?hI ?hIx ⟨_, World.ownsRow_nil _ _ _ _, e5, e6', Keep.refl _ _⟩
        (fun y => { tmps := #[.pointer (some ⟨gb, 0, none⟩), undef, .slice none 0 0, .bool false, .pointer (some ⟨B4, 0, none⟩), .pointer (some ⟨B5, 0, none⟩), .pointer (some ⟨B5 + 1, 0, none⟩), .int .u32 (y.1 : Int), .pointer (some ⟨gb, 0, none⟩), .agg (hdCells st).toArray, .pointer (some ⟨B4, 3, none⟩), .bool true, .bool false, .bool false, .pointer (some ⟨gb, 0, none⟩), .pointer (some ⟨gb, 0, none⟩), .pointer (some ⟨gb, 0, none⟩), .pointer (some ⟨g, 0, none⟩), .bool true, .bool false, .bool false, .agg #[.int .u32 0, .int .i64 0], .pointer (some ⟨gb, 0, none⟩), .pointer (some ⟨B4, 0, none⟩), .pointer (some ⟨B4, 1, none⟩), .int .u32 (st.long : Int), .int .i64 (st.long : Int), .func (.func 111) #[] #[.pointer (some ⟨B5 + 1 + 1 + 1, 0, none⟩), .pointer (some ⟨B5 + 1 + 1, 0, none⟩)], .int .u32 (y.1 : Int), undef, undef, undef, undef, undef, undef, undef, undef, undef, undef, undef, undef, undef, undef, undef, undef, undef, undef, undef, undef, undef], defers := [] }) ?assign ?body ?done ?stop
      case hI =>
        intro pre X Y row hs hg hr
        obtain ⟨v, h1, h2, h3, h5⟩ := hs
        exact ⟨v, ownsRow_own (β := Unit) _ _ _ (fun _ => v) (fun _ => (outs pre).length) (fun _ => wordsV (outs pre)) () X Y row h1 hg hr, blk_own (β := Unit) _ _ (fun _ => _) () X Y row h2 hg hr, blk_own (β := Unit) _ _ (fun _ => _) () X Y row h3 hg hr, keep_own (β := Unit) (Nat.le_refl _) () X Y row h5 hg hr⟩
      case hIx => exact fun _ _ _ _ _ hs _ _ => hs
      case assign =>
        intro l x W K hK
        simp only [encU]
        gi_wp2
        exact hK
      case body =>
        rintro l pre ⟨x, hxm⟩ W ⟨v, hrow, hv5, hsum, hK⟩ hlt
        have hx32 := H32.out x hxm
        have hsn : outs (pre ++ [⟨x, hxm⟩]) = outs pre ++ [x] := outs_snoc _ _
        have hol : (outs pre).length < 4096 := by rw [outs_length]; omega
        have hf32 : foldC 4294967295 (outs pre) < 4294967296 := foldC_lt _ (by decide) (fun y hy => by
          unfold outs at hy
          obtain ⟨q, _, rfl⟩ := List.mem_map.1 hy
          exact H32.out q.1 q.2)
        have hc := hv5.cell 0
        simp at hc
        obtain ⟨A, c, rfl⟩ := own_shape hrow
        have hne := own_blk_ne hrow hv5 (by decide)
        have hne6 := own_blk_ne hrow hsum (by decide)
        have hB : W1.heap.size ≤ W.heap.size := hK.size
        have HSN := Lib.hid hsn
        have HK2 := Lib.hid hK
        have HSM := Lib.hid hsum
        clear hsn hK hsum hlt
        dsimp only
        gi_wp2_with (gi_at_builtin; refine wpListIn_append_one rfl (.tmp 29) (.tmp 31) 54 rfl slice_u32 hrow rfl rfl (us := [.int .u32 (x : Int)]) rfl (by simp [Value.oneCell']) hB (by omega) (by unfold maxLen; omega) ?_; intro v' w1 hown1 hk1 hat1; obtain ⟨A', c', rfl⟩ := own_shape hown1; have hv1 := hv5.keep hk1 (by simpa using hne); have hc1 := hv1.cell 0; have hf1 := hv1.frozen 0; simp at hc1)
        obtain ⟨n1, n2, n3⟩ := boxed_append hrow hv5 (by decide) hk1 hown1
        have hlt' := fun y hy => (hrow.lt y (by simpa using hy)).1
        have h6n : B5 + 1 ∉ B5 :: (Value.slice A (outs pre).length c).ownBlock.toList := fun hm => by
          rcases List.mem_cons.1 hm with h | h
          · omega
          · exact hne6 (by simpa using h)
        have hs6 := HSM.out.keep n3 h6n
        refine ⟨trivial, ?_⟩
        refine (callsIn_wide.2 (cword_any (B5 + 1) 0 126 #[.int .u32 0, .int .i64 0] (foldC 4294967295 (outs pre)) ((outs pre).length * 4) x _ hf32 hx32 (by omega) hs6 (by decide))).mono ?_
        rintro e w3 ⟨rfl, hb3, kw⟩
        have hne6' := own_blk_ne n2 hs6 (by decide)
        have n4 := own_keep n2 kw (fun y hy hm => by simp only [List.mem_cons, List.not_mem_nil, or_false] at hm; subst hm; exact hne6' hy)
        have n5 := n1.keep kw (by simp)
        have kt : Keep (B5 :: (B5 + 1) :: (Value.slice A (outs pre).length c).ownBlock.toList) W w3 :=
          (n3.mono (fun y hy => by rcases List.mem_cons.1 hy with h | h <;> simp [h])).trans kw (fun y hy _ => by simp only [List.mem_cons, List.not_mem_nil, or_false] at hy; simp [hy])
        have hkf : ∀ y, y ∈ B5 :: (B5 + 1) :: (Value.slice A (outs pre).length c).ownBlock.toList → y = B5 ∨ y = B5 + 1 ∨ W1.heap.size ≤ y := fun y hy => by
          rcases List.mem_cons.1 hy with h | h
          · exact .inl h
          · rcases List.mem_cons.1 h with h | h
            · exact .inr (.inl h)
            · exact .inr (.inr (hlt' y (by simpa using h)))
        gi_wp2
        refine ⟨kt.from (fun y hy => ?_), Same.keep kt (fun y hy => ⟨by have := (HLT.out y hy).1; omega, fun hm => ?_⟩), .slice A' ((outs pre).length + 1) c', ?_, ?_, ?_, ?_⟩
        · rcases List.mem_cons.1 hy with h | h
          · exact .inl (by omega)
          · rcases List.mem_cons.1 h with h | h
            · exact .inl (by omega)
            · exact .inr (own_cells hrow y h)
        · have h1 := HLT.out y hy
          have h2 := hkf y hm
          omega
        · rw [HSN.out]
          simpa using n4
        · exact n5
        · rw [HSN.out, foldC_snoc, List.length_append, List.length_singleton, Nat.add_mul, Nat.one_mul]
          exact hb3
        · exact HK2.out.trans kt (fun y hy hl => by
            have h2 := hkf y hy
            simp only [List.mem_cons, List.not_mem_nil, or_false]
            omega)
      case done =>
        rintro D ys W hD hys ⟨v, hrow, hv5, hsum, hK⟩ hD2
        rw [hys] at hrow hsum
        rw [HDL.out] at hrow
        obtain ⟨A, c, rfl⟩ := own_shape hrow
        have b4 := HB41.out.keep hK (by simp only [List.mem_cons, List.not_mem_nil, or_false]; omega)
        have hF : ∀ W', Keep [] W W' → W'.cell? ⟨B5, 0, none⟩ = some (.slice A st.long c) ∧ W'.cell? ⟨B4, 1, none⟩ = some (.int .u32 (st.long : Int)) ∧ W'.cell? ⟨B4, 2, none⟩ = some (.int .u32 (st.check : Int)) := fun W' k => ⟨(hv5.keep0 k).cell 0, (b4.keep0 k).cell 1, (b4.keep0 k).cell 2⟩
        have HVA : Hid (∀ W', Keep [] W W' → Calls Try.prog 74 #[.pointer (some ⟨B5 + 1, 0, none⟩)] W' fun e w' => e = .returned (.int .u32 ((cplJ (foldC 4294967295 L) : Nat) : Int)) ∧ Keep [] W w') := fun W' k =>
          (cvalue_any (B5 + 1) 0 126 #[.int .u32 0, .int .i64 0] (foldC 4294967295 L) (L.length * 4) W' (hsum.keep0 k) (by decide)).mono fun e w' he => ⟨he.1, he.2 ▸ k⟩
        have HRW := Lib.hid hrow
        have HKA : Hid (Keep [] w2 W) := HKL.out.trans hK (fun y hy hl => by simp only [List.mem_cons, List.not_mem_nil, or_false] at hy; omega)
        have HIM3 : Hid (im = if cplJ (foldC 4294967295 L) = st.check then some L else none) := by show _ = _; rw [HIM2.out, HCRC.out]
        have HDD := Lib.hid hD2
        have hDlt : D < W.heap.size := (Array.getElem?_eq_some_iff.1 hD2).1
        generalize cplJ (foldC 4294967295 L) = sm at *
        clear hrow hv5 hsum b4 hys hK hD2
        by_cases hck : sm = st.check
        · have q0 : ((sm : Int) != (st.check : Int)) = false := by simp [hck]
          have HRI : Hid (im = some L) := by show _ = _; rw [HIM3.out, if_pos hck]
          have q1 : (sm = st.check) = True := eq_true hck
          gi_wp2
          refine region_in_flow (Keep [] W) open_wide rfl rfl (by kernel_rfl) (Keep.refl _ _).drew ?_
          iterate 8 (refine fl_val (v := ?_) (by rfl) ?_ ?_; rotate_left; (intro w' hS; obtain ⟨f0,f1,f2⟩ := hF w' hS; go_simp; with_reducible rfl); simp only [Act.put, List.setIfInBounds_toArray, List.set_cons_zero, List.set_cons_succ])
          refine fl_call (f := 74) (v := .int .u32 (sm : Int)) (by rfl) rfl (by simp only [List.map_toArray, List.map_cons, List.map_nil]; rfl) Try.func74 (by kernel_rfl) (by kernel_rfl) (fun w' hS => ((HVA.out w' hS))) ?_; simp only [Act.put, List.setIfInBounds_toArray, List.set_cons_zero, List.set_cons_succ]
          iterate 5 (refine fl_val (v := ?_) (by rfl) ?_ ?_; rotate_left; (intro w' hS; obtain ⟨f0,f1,f2⟩ := hF w' hS; go_simp; with_reducible rfl); simp only [Act.put, List.setIfInBounds_toArray, List.set_cons_zero, List.set_cons_succ])
          refine fl_nil ?_
          intro w' hS
          have HD3 : Hid (w'.heap[D]? = some (.deferred (some []))) := (hS.block D hDlt (by simp)).trans HDD.out
          have HKS := Lib.hid hS
          have c5 := (hF w' hS).1
          clear hS
          gi_wp2
          refine leavesM_marksB [D] w' (by simp) (fun D' hD' => by simp at hD'; subst hD'; exact HD3.out) (fun W' hk => ?_)
          rw [HRI.out]
          have hne : ∀ y, (Value.slice A st.long c).ownBlock = some y → y ∉ [D] := fun y hy hm => by
            simp at hm
            subst hm
            obtain ⟨cs, t, fr, hh⟩ := own_cells (own_keep0 HRW.out HKS.out) y (by simp [hy])
            rw [HD3.out] at hh
            cases hh
          refine ⟨.tuple #[.slice A st.long c, .bool true], by simp [results, Try.results29, go_sem], A, c, by rw [HDL.out], ?_, ?_⟩
          · rw [HDL.out]
            exact own_base (own_keep (own_keep0 HRW.out HKS.out) hk hne) (by have := HLO.out; omega)
          · exact (HK02.out.then (HKA.out.then HKS.out)).trans hk (fun y hy hl => by have := HLO.out; simp at hy; omega)
        · have q0 : ((sm : Int) != (st.check : Int)) = true := bne_iff_ne.2 (by omega)
          have HRI : Hid (im = none) := by show _ = _; rw [HIM3.out, if_neg hck]
          have q1 : (sm = st.check) = False := eq_false hck
          gi_wp2
          refine region_in_flow (Keep [] W) open_wide rfl rfl (by kernel_rfl) (Keep.refl _ _).drew ?_
          iterate 8 (refine fl_val (v := ?_) (by rfl) ?_ ?_; rotate_left; (intro w' hS; obtain ⟨f0,f1,f2⟩ := hF w' hS; go_simp; with_reducible rfl); simp only [Act.put, List.setIfInBounds_toArray, List.set_cons_zero, List.set_cons_succ])
          refine fl_call (f := 74) (v := .int .u32 (sm : Int)) (by rfl) rfl (by simp only [List.map_toArray, List.map_cons, List.map_nil]; rfl) Try.func74 (by kernel_rfl) (by kernel_rfl) (fun w' hS => ((HVA.out w' hS))) ?_; simp only [Act.put, List.setIfInBounds_toArray, List.set_cons_zero, List.set_cons_succ]
          iterate 5 (refine fl_val (v := ?_) (by rfl) ?_ ?_; rotate_left; (intro w' hS; obtain ⟨f0,f1,f2⟩ := hF w' hS; go_simp; with_reducible rfl); simp only [Act.put, List.setIfInBounds_toArray, List.set_cons_zero, List.set_cons_succ])
          refine fl_nil ?_
          intro w' hS
          have HD3 : Hid (w'.heap[D]? = some (.deferred (some []))) := (hS.block D hDlt (by simp)).trans HDD.out
          have HKS := Lib.hid hS
          clear hS
          gi_wp2
          refine leavesM_marksB [D] w' (by simp) (fun D' hD' => by simp at hD'; subst hD'; exact HD3.out) (fun W' hk => ?_)
          rw [HRI.out]
          exact ⟨_, by simp [results, Try.results29, go_sem], rfl, (HK02.out.then (HKA.out.then HKS.out)).trans hk (fun y hy hl => by have := HLO.out; simp at hy; omega)⟩
      case stop =>
        rintro D c pre W _ hpre hF _
        exact hF.elim
end
end Go.Proofs.Yteanpgkonhdbpaa
