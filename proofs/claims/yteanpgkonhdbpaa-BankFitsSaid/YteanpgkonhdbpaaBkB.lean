/- bank.State, walked. Condition: the device is one that may be, the bank one that fits. -/
import Derived.Test.YteanpgkonhdbpaaBkA
import Derived.Deep.DeepCutAuto
import Derived.Deep.CutRange
namespace Go.Proofs.Yteanpgkonhdbpaa
open Go.RowKit

def secB (d : Dev) (b : BkS) (k : Nat) : List Nat := sectL d (b.base + k)
def stateB (d : Dev) (b : BkS) : HdS :=
  if voidB d b = true ∨ roomB d b < (headH (secB d b 1)).long then ⟨0, 0, 0, false, false, (headH (secB d b 1)).trials⟩ else headH (secB d b 1)
theorem sectL_lt {d : Dev} (ho : d.Ok) (σ : Nat) : ∀ x ∈ sectL d σ, x < 4294967296 := fun x hx => ho.bit x (List.mem_of_mem_drop (List.mem_of_mem_take hx))
theorem headH_long {l : List Nat} (h : ∀ x ∈ l, x < 4294967296) : (headH l).long < 4294967296 := by
  unfold headH
  dsimp only
  split
  · exact atH_lt h 2
  · decide
theorem headH_trials (l : List Nat) : (headH l).trials ≤ 3 := trialsH_le l 3

section
variable (gb g b1 b2 : Nat) (d : Dev) (b : BkS) (w : World) (hb : BankAt w gb g b) (hd : DevAt w g b1 b2 d) (ho : d.Ok) (hk : BkOk d b)
include hb hd ho hk
set_option maxRecDepth 100000 in
set_option maxHeartbeats 4000000 in
theorem bstate_any : Calls Try.prog 32 #[.pointer (some ⟨gb, 0, none⟩)] w fun e w' => e = .returned (.agg (hdCells (stateB d b)).toArray) ∧ Keep [] w w' := by
  have hns := ho.ns2
  have h3 := hk.three
  have hf := hk.fits
  have HA : Hid (AggOf Try.prog 70 6) := ⟨by kernel_rfl, by kernel_rfl⟩
  obtain ⟨w1, hw⟩ : ∃ w1, w.alloc (.cells #[.int .u32 0, .int .u32 0, .int .u32 0, .bool false, .bool false, .int .i64 0] 70) = w1 := ⟨_, rfl⟩
  have k1 : Keep [] w w1 := by rw [← hw]; exact (Keep.refl [] w).alloc _
  have B2 : Blk w1 w.heap.size 70 #[.int .u32 0, .int .u32 0, .int .u32 0, .bool false, .bool false, .int .i64 0] := by rw [← hw]; exact Blk.new _ _ _
  have HW := Lib.hid hw
  have HB2 := Lib.hid B2
  have HK1 := Lib.hid k1
  have hG : ∀ W, Keep [] w1 W → W.cell? ⟨gb, 0, none⟩ = some (.pointer (some ⟨g, 0, none⟩)) ∧ W.cell? ⟨gb, 1, none⟩ = some (.int .i64 (b.base : Int)) ∧ True := fun W k => ⟨(hb.keep0 (HK1.out.then k)).cells.1, (hb.keep0 (HK1.out.then k)).cells.2.1, trivial⟩
  have HSE : Hid (∀ W, Keep [] w1 W → Calls Try.prog 39 #[.pointer (some ⟨g, 0, none⟩), .int .i64 ((b.base + 1 : Nat) : Int)] W (RetWords W (secB d b 1))) := fun W k => by
    have := fsector_any g b1 b2 d ((b.base + 1 : Nat) : Int) W (hd.keep0 (HK1.out.then k)) ho
    unfold sectS at this
    rw [if_pos (by omega)] at this
    exact this
  have HRD : Hid (∀ W A n c, (secB d b 1).length = n → Reads W 1 A n (wordsV (secB d b 1)) → Calls Try.prog 75 #[.slice A n c] W fun e w' => e = .returned (.agg (hdCells (headH (secB d b 1))).toArray) ∧ Keep [] W w') := fun W A n c hl hr => hread_any A n c (secB d b 1) W hl (sectL_lt ho _) hr
  have HVO : Hid (∀ W, Keep [] w1 W → Calls Try.prog 31 #[.pointer (some ⟨gb, 0, none⟩)] W fun e w' => e = .returned (.bool (voidB d b)) ∧ Keep [] W w') := fun W k => bvoid_any gb g b1 b2 d b W (hb.keep0 (HK1.out.then k)) (hd.keep0 (HK1.out.then k)) ho hk
  have HRO : Hid (∀ W, Keep [] w1 W → Calls Try.prog 30 #[.pointer (some ⟨gb, 0, none⟩)] W fun e w' => e = .returned (.int .i64 ((roomB d b : Nat) : Int)) ∧ Keep [] W w') := fun W k => broom_any gb g b1 b2 d b W (hb.keep0 (HK1.out.then k)) (hd.keep0 (HK1.out.then k)) ho hk
  have HST : Hid (stateB d b = if voidB d b = true ∨ roomB d b < (headH (secB d b 1)).long then ⟨0, 0, 0, false, false, (headH (secB d b 1)).trials⟩ else headH (secB d b 1)) := show _ = _ from rfl
  have hlg := headH_long (l := secB d b 1) (sectL_lt ho _)
  have hw1 : IntKind.i64.wrap ((b.base : Int) + 1) = ((b.base + 1 : Nat) : Int) := by rw [show (b.base : Int) + 1 = ((b.base + 1 : Nat) : Int) by omega]; exact IntWalk.i64_in _ (by omega)
  generalize stateB d b = st at *
  generalize headH (secB d b 1) = h at *
  generalize secB d b 1 = l at *
  generalize voidB d b = vb at *
  generalize roomB d b = rm at *
  clear hb hd ho hk hw k1 B2 hf
  go_enter Try.func32, Try.ntmps32
  go_upto_region 1 with (rw [HW.out])
  go_cut [3] from 4 (fun v3 wx => ∃ B3, v3 = .pointer (some ⟨B3, 0, none⟩) ∧ Blk wx B3 70 (hdCells h).toArray ∧ w1.heap.size ≤ B3 ∧ Keep [] w1 wx)
  case first =>
    refine ap_begin 12 (Keep [] w1) rfl (Keep.refl _ _).drew (fun hS hPan => ?_) (fun _ _ d _ _ h => by cases d <;> exact h)
    (refine ap_val (v := ?_) 0 rfl (by kernel_rfl) (by kernel_rfl) (by kernel_rfl) (by kernel_rfl) (by rfl) hPan ?_ hS ?_; rotate_left; (intro w' hSw; go_simp; try with_reducible rfl); simp only [Act.put, List.setIfInBounds_toArray, List.set_cons_zero, List.set_cons_succ])
    (refine ap_val (v := ?_) 1 rfl (by kernel_rfl) (by kernel_rfl) (by kernel_rfl) (by kernel_rfl) (by rfl) hPan ?_ hS ?_; rotate_left; (intro w' hSw; go_simp; try with_reducible rfl); simp only [Act.put, List.setIfInBounds_toArray, List.set_cons_zero, List.set_cons_succ])
    (refine ap_val (v := ?_) 2 rfl (by kernel_rfl) (by kernel_rfl) (by kernel_rfl) (by kernel_rfl) (by rfl) hPan ?_ hS ?_; rotate_left; (intro w' hSw; go_simp; try with_reducible rfl); simp only [Act.put, List.setIfInBounds_toArray, List.set_cons_zero, List.set_cons_succ])
    (refine ap_val (v := ?_) 3 rfl (by kernel_rfl) (by kernel_rfl) (by kernel_rfl) (by kernel_rfl) (by rfl) hPan ?_ hS ?_; rotate_left; (intro w' hSw; obtain ⟨f0,f1,f2⟩ := hG w' hSw; go_simp; try with_reducible rfl); simp only [Act.put, List.setIfInBounds_toArray, List.set_cons_zero, List.set_cons_succ])
    (refine ap_val (v := ?_) 4 rfl (by kernel_rfl) (by kernel_rfl) (by kernel_rfl) (by kernel_rfl) (by rfl) hPan ?_ hS ?_; rotate_left; (intro w' hSw; go_simp; try with_reducible rfl); simp only [Act.put, List.setIfInBounds_toArray, List.set_cons_zero, List.set_cons_succ])
    (refine ap_val (v := ?_) 5 rfl (by kernel_rfl) (by kernel_rfl) (by kernel_rfl) (by kernel_rfl) (by rfl) hPan ?_ hS ?_; rotate_left; (intro w' hSw; go_simp; try with_reducible rfl); simp only [Act.put, List.setIfInBounds_toArray, List.set_cons_zero, List.set_cons_succ])
    (refine ap_val (v := ?_) 6 rfl (by kernel_rfl) (by kernel_rfl) (by kernel_rfl) (by kernel_rfl) (by rfl) hPan ?_ hS ?_; rotate_left; (intro w' hSw; go_simp; try with_reducible rfl); simp only [Act.put, List.setIfInBounds_toArray, List.set_cons_zero, List.set_cons_succ])
    (refine ap_val (v := ?_) 7 rfl (by kernel_rfl) (by kernel_rfl) (by kernel_rfl) (by kernel_rfl) (by rfl) hPan ?_ hS ?_; rotate_left; (intro w' hSw; obtain ⟨f0,f1,f2⟩ := hG w' hSw; go_simp; try with_reducible rfl); simp only [Act.put, List.setIfInBounds_toArray, List.set_cons_zero, List.set_cons_succ])
    (refine ap_val (v := ?_) 8 rfl (by kernel_rfl) (by kernel_rfl) (by kernel_rfl) (by kernel_rfl) (by rfl) hPan ?_ hS ?_; rotate_left; (intro w' hSw; go_simp; try with_reducible rfl); simp only [Act.put, List.setIfInBounds_toArray, List.set_cons_zero, List.set_cons_succ])
    generalize w1.drew = wd at *
    refine ap_twoJ 9 11 (by kernel_rfl) ?ta ?tb
    case ta =>
      refine op_call (f := 39) (vs := #[.pointer (some ⟨g, 0, none⟩), .int .i64 ((b.base + 1 : Nat) : Int)]) 9 rfl (by kernel_rfl) rfl (by simp only [List.map_toArray, List.map_cons, List.map_nil]; rfl) Try.func39 (by kernel_rfl) (by kernel_rfl) (HSE.out wd hS) ?_
      rintro e ws ⟨A, c, rfl, hown, ks⟩
      have kS : Keep [] w1 ws := hS.then ks
      have hrd := Reads.of_own hown
      refine ⟨_, rfl, fun _ => kS, ?_⟩
      (simp only [Act.put, List.setIfInBounds_toArray, List.set_cons_zero, List.set_cons_succ])
      refine ap_twoJ 10 11 (by kernel_rfl) ?ta1 ?ta2
      case ta1 =>
        refine op_call (f := 75) (vs := #[.slice A l.length c]) 10 rfl (by kernel_rfl) rfl (by simp only [List.map_toArray, List.map_cons, List.map_nil]; rfl) Try.func75 (by kernel_rfl) (by kernel_rfl) (HRD.out ws A l.length c rfl hrd) ?_
        rintro e wr ⟨rfl, kr⟩
        have kR : Keep [] w1 wr := kS.then kr
        refine ⟨_, rfl, fun _ => kR, ?_⟩
        (simp only [Act.put, List.setIfInBounds_toArray, List.set_cons_zero, List.set_cons_succ])
        refine ap_one 11 (by kernel_rfl) ?_
        refine op_run (v := .pointer (some ⟨wr.heap.size, 0, none⟩)) (w' := wr.alloc (.cells #[.int .u32 0, .int .u32 0, .int .u32 0, .bool false, .bool false, .int .i64 0] 70)) 11 rfl (by kernel_rfl) (by go_simp) ?_
        have hbn := Blk.new wr 70 #[.int .u32 0, .int .u32 0, .int .u32 0, .bool false, .bool false, .int .i64 0]
        have kal : Keep [] w1 (wr.alloc (.cells #[.int .u32 0, .int .u32 0, .int .u32 0, .bool false, .bool false, .int .i64 0] 70)) := kR.alloc _
        have hll : w1.heap.size ≤ wr.heap.size := kR.size
        have ka0 : Keep [] wr (wr.alloc (.cells #[.int .u32 0, .int .u32 0, .int .u32 0, .bool false, .bool false, .int .i64 0] 70)) := (Keep.refl [] wr).alloc _
        refine ⟨fun _ => kal, ?_⟩
        (simp only [Act.put, List.setIfInBounds_toArray, List.set_cons_zero, List.set_cons_succ])
        generalize wr.alloc (.cells #[.int .u32 0, .int .u32 0, .int .u32 0, .bool false, .bool false, .int .i64 0] 70) = wz at *
        generalize wr.heap.size = B3 at *
        have HBZ := Lib.hid hbn
        have HKZ := Lib.hid kal
        have HLZ := Lib.hid hll
        clear hbn kal hll ka0 hown hrd ks kr kS kR
        refine ap_one 12 (by kernel_rfl) ?_
        refine op_store_all (t := 70) (cs := #[.int .u32 0, .int .u32 0, .int .u32 0, .bool false, .bool false, .int .i64 0]) (vs := hdCells h) 12 rfl (by kernel_rfl) rfl rfl rfl HA.out.2 HBZ.out (by simp [Value.oneCell']) rfl ?_
        intro w9 d9 k9
        refine ⟨fun h => (by cases h), ap_done (by kernel_rfl) ?_ _⟩
        (simp only [Act.put, List.setIfInBounds_toArray, List.set_cons_zero, List.set_cons_succ])
        have HD9 := Lib.hid d9
        have HS9 : Hid (Keep [] w1 w9) := HKZ.out.trans k9 (fun y hy hl => by have := HLZ.out; simp only [List.mem_cons, List.not_mem_nil, or_false] at hy; omega)
        have HL9 := HLZ
        clear k9 d9 hS hPan hG HBZ HKZ
        go_wp2_with fail
        go_meet
        case rel => exact ⟨_, rfl, HD9.out, HL9.out, HS9.out⟩
      case ta2 =>
        refine op_run (v := .pointer (some ⟨ws.heap.size, 0, none⟩)) (w' := ws.alloc (.cells #[.int .u32 0, .int .u32 0, .int .u32 0, .bool false, .bool false, .int .i64 0] 70)) 11 rfl (by kernel_rfl) (by go_simp) ?_
        have hbn := Blk.new ws 70 #[.int .u32 0, .int .u32 0, .int .u32 0, .bool false, .bool false, .int .i64 0]
        have kal : Keep [] w1 (ws.alloc (.cells #[.int .u32 0, .int .u32 0, .int .u32 0, .bool false, .bool false, .int .i64 0] 70)) := kS.alloc _
        have hll : w1.heap.size ≤ ws.heap.size := kS.size
        have ka0 : Keep [] ws (ws.alloc (.cells #[.int .u32 0, .int .u32 0, .int .u32 0, .bool false, .bool false, .int .i64 0] 70)) := (Keep.refl [] ws).alloc _
        refine ⟨fun _ => kal, ?_⟩
        (simp only [Act.put, List.setIfInBounds_toArray, List.set_cons_zero, List.set_cons_succ])
        generalize ws.alloc (.cells #[.int .u32 0, .int .u32 0, .int .u32 0, .bool false, .bool false, .int .i64 0] 70) = wa at *
        generalize ws.heap.size = B3 at *
        refine ap_one 10 (by kernel_rfl) ?_
        refine op_call (f := 75) (vs := #[.slice A l.length c]) 10 rfl (by kernel_rfl) rfl (by simp only [List.map_toArray, List.map_cons, List.map_nil]; rfl) Try.func75 (by kernel_rfl) (by kernel_rfl) (HRD.out wa A l.length c rfl (hrd.keep0 ka0)) ?_
        rintro e wz ⟨rfl, kr⟩
        have kR : Keep [] w1 wz := kal.then kr
        refine ⟨_, rfl, fun _ => kR, ?_⟩
        (simp only [Act.put, List.setIfInBounds_toArray, List.set_cons_zero, List.set_cons_succ])
        have HBZ := Lib.hid (hbn.keep0 kr)
        have HKZ := Lib.hid kR
        have HLZ := Lib.hid hll
        clear hbn kal hll ka0 hown hrd ks kr kS kR
        refine ap_one 12 (by kernel_rfl) ?_
        refine op_store_all (t := 70) (cs := #[.int .u32 0, .int .u32 0, .int .u32 0, .bool false, .bool false, .int .i64 0]) (vs := hdCells h) 12 rfl (by kernel_rfl) rfl rfl rfl HA.out.2 HBZ.out (by simp [Value.oneCell']) rfl ?_
        intro w9 d9 k9
        refine ⟨fun h => (by cases h), ap_done (by kernel_rfl) ?_ _⟩
        (simp only [Act.put, List.setIfInBounds_toArray, List.set_cons_zero, List.set_cons_succ])
        have HD9 := Lib.hid d9
        have HS9 : Hid (Keep [] w1 w9) := HKZ.out.trans k9 (fun y hy hl => by have := HLZ.out; simp only [List.mem_cons, List.not_mem_nil, or_false] at hy; omega)
        have HL9 := HLZ
        clear k9 d9 hS hPan hG HBZ HKZ
        go_wp2_with fail
        go_meet
        case rel => exact ⟨_, rfl, HD9.out, HL9.out, HS9.out⟩
    case tb =>
      refine op_run (v := .pointer (some ⟨wd.heap.size, 0, none⟩)) (w' := wd.alloc (.cells #[.int .u32 0, .int .u32 0, .int .u32 0, .bool false, .bool false, .int .i64 0] 70)) 11 rfl (by kernel_rfl) (by go_simp) ?_
      have hbn := Blk.new wd 70 #[.int .u32 0, .int .u32 0, .int .u32 0, .bool false, .bool false, .int .i64 0]
      have kal : Keep [] w1 (wd.alloc (.cells #[.int .u32 0, .int .u32 0, .int .u32 0, .bool false, .bool false, .int .i64 0] 70)) := hS.alloc _
      have hll : w1.heap.size ≤ wd.heap.size := hS.size
      have ka0 : Keep [] wd (wd.alloc (.cells #[.int .u32 0, .int .u32 0, .int .u32 0, .bool false, .bool false, .int .i64 0] 70)) := (Keep.refl [] wd).alloc _
      refine ⟨fun _ => kal, ?_⟩
      (simp only [Act.put, List.setIfInBounds_toArray, List.set_cons_zero, List.set_cons_succ])
      generalize wd.alloc (.cells #[.int .u32 0, .int .u32 0, .int .u32 0, .bool false, .bool false, .int .i64 0] 70) = wa at *
      generalize wd.heap.size = B3 at *
      refine ap_one 9 (by kernel_rfl) ?_
      refine op_call (f := 39) (vs := #[.pointer (some ⟨g, 0, none⟩), .int .i64 ((b.base + 1 : Nat) : Int)]) 9 rfl (by kernel_rfl) rfl (by simp only [List.map_toArray, List.map_cons, List.map_nil]; rfl) Try.func39 (by kernel_rfl) (by kernel_rfl) (HSE.out wa kal) ?_
      rintro e ws ⟨A, c, rfl, hown, ks⟩
      have kS : Keep [] w1 ws := kal.then ks
      have hrd := Reads.of_own hown
      refine ⟨_, rfl, fun _ => kS, ?_⟩
      (simp only [Act.put, List.setIfInBounds_toArray, List.set_cons_zero, List.set_cons_succ])
      refine ap_one 10 (by kernel_rfl) ?_
      refine op_call (f := 75) (vs := #[.slice A l.length c]) 10 rfl (by kernel_rfl) rfl (by simp only [List.map_toArray, List.map_cons, List.map_nil]; rfl) Try.func75 (by kernel_rfl) (by kernel_rfl) (HRD.out ws A l.length c rfl hrd) ?_
      rintro e wz ⟨rfl, kr⟩
      have kR : Keep [] w1 wz := kS.then kr
      refine ⟨_, rfl, fun _ => kR, ?_⟩
      (simp only [Act.put, List.setIfInBounds_toArray, List.set_cons_zero, List.set_cons_succ])
      have HBZ := Lib.hid ((hbn.keep0 ks).keep0 kr)
      have HKZ := Lib.hid kR
      have HLZ := Lib.hid hll
      clear hbn kal hll ka0 hown hrd ks kr kS kR
      refine ap_one 12 (by kernel_rfl) ?_
      refine op_store_all (t := 70) (cs := #[.int .u32 0, .int .u32 0, .int .u32 0, .bool false, .bool false, .int .i64 0]) (vs := hdCells h) 12 rfl (by kernel_rfl) rfl rfl rfl HA.out.2 HBZ.out (by simp [Value.oneCell']) rfl ?_
      intro w9 d9 k9
      refine ⟨fun h => (by cases h), ap_done (by kernel_rfl) ?_ _⟩
      (simp only [Act.put, List.setIfInBounds_toArray, List.set_cons_zero, List.set_cons_succ])
      have HD9 := Lib.hid d9
      have HS9 : Hid (Keep [] w1 w9) := HKZ.out.trans k9 (fun y hy hl => by have := HLZ.out; simp only [List.mem_cons, List.not_mem_nil, or_false] at hy; omega)
      have HL9 := HLZ
      clear k9 d9 hS hPan hG HBZ HKZ
      go_wp2_with fail
      go_meet
      case rel => exact ⟨_, rfl, HD9.out, HL9.out, HS9.out⟩
  case rest =>
    obtain ⟨B3, rfl, hb3, hlo, k19⟩ := hcut
    generalize wc = w9 at *
    have HB3 := Lib.hid hb3
    have HK9 := Lib.hid k19
    have HB29 := Lib.hid (HB2.out.keep0 k19)
    have hF2 : ∀ W, Keep [] w9 W → W.cell? ⟨B3, 1, none⟩ = some (.int .u32 (h.long : Int)) ∧ True ∧ True := fun W k => ⟨(HB3.out.keep0 k).cell 1, trivial, trivial⟩
    have HVO9 : Hid (∀ W, Keep [] w9 W → Calls Try.prog 31 #[.pointer (some ⟨gb, 0, none⟩)] W fun e w' => e = .returned (.bool vb) ∧ Keep [] w9 w') := fun W k => (HVO.out W (HK9.out.then k)).mono fun e w' he => ⟨he.1, k.then he.2⟩
    have HRO9 : Hid (∀ W, Keep [] w9 W → Calls Try.prog 30 #[.pointer (some ⟨gb, 0, none⟩)] W fun e w' => e = .returned (.int .i64 (rm : Int)) ∧ Keep [] w9 w') := fun W k => (HRO.out W (HK9.out.then k)).mono fun e w' he => ⟨he.1, k.then he.2⟩
    have hlw : w.heap.size ≠ B3 := by have := HB2.out.lt; omega
    have u1 : IntKind.i64.wrap (h.long : Int) = (h.long : Int) := IntWalk.i64_in _ (by omega)
    clear hb3 k19 HVO HRO HSE HRD hG hlo
    cases vb with
    | true =>
      have HST2 : Hid (st = ⟨0, 0, 0, false, false, h.trials⟩) := by show _ = _; rw [HST.out, if_pos (.inl rfl)]
      go_upto_region 2 with fail
      refine wp_region_flow (Keep [] w9) rfl (by kernel_rfl) (Keep.refl _ _).drew ?_
      (refine fl_val (v := ?_) (by rfl) ?_ ?_; rotate_left; (intro w' hS; obtain ⟨f0,f1,f2⟩ := hF2 w' hS; go_simp; with_reducible rfl); simp only [Act.put, List.setIfInBounds_toArray, List.set_cons_zero, List.set_cons_succ])
      refine fl_call (f := 31) (v := .bool true) (by rfl) rfl (by simp only [List.map_toArray, List.map_cons, List.map_nil]; rfl) Try.func31 (by kernel_rfl) (by kernel_rfl) (fun w' hS => ((HVO9.out w' hS))) ?_; simp only [Act.put, List.setIfInBounds_toArray, List.set_cons_zero, List.set_cons_succ]
      (refine fl_val (v := ?_) (by rfl) ?_ ?_; rotate_left; (intro w' hS; obtain ⟨f0,f1,f2⟩ := hF2 w' hS; go_simp; with_reducible rfl); simp only [Act.put, List.setIfInBounds_toArray, List.set_cons_zero, List.set_cons_succ])
      iterate 7 (refine fl_off (by rfl) ?_; simp only [Act.put, List.setIfInBounds_toArray, List.set_cons_zero, List.set_cons_succ])
      (refine fl_val (v := ?_) (by rfl) ?_ ?_; rotate_left; (intro w' hS; obtain ⟨f0,f1,f2⟩ := hF2 w' hS; go_simp; with_reducible rfl); simp only [Act.put, List.setIfInBounds_toArray, List.set_cons_zero, List.set_cons_succ])
      refine fl_nil ?_
      intro w10 hS
      have c35 : w10.cell? ⟨B3, 5, none⟩ = some (.int .i64 (h.trials : Int)) := (HB3.out.keep0 hS).cell 5
      have hb2 := HB29.out.keep0 hS
      have HKS := Lib.hid (HK9.out.then hS)
      clear hS hF2 HVO9 HRO9
      go_wp2_with (refine stop_store 70 (.tmp 2) (.tmp 28) rfl ?_)
      constructor
      refine wpList_store_all rfl 70 (.tmp 2) (.tmp 28) rfl rfl rfl (t := 70) (cs := #[.int .u32 0, .int .u32 0, .int .u32 0, .bool false, .bool false, .int .i64 0]) (vs := hdCells ⟨0, 0, 0, false, false, h.trials⟩) HA.out.2 hb2 (by simp [Value.oneCell']) rfl ?_
      intro w12 d12 k12
      have HD := Lib.hid d12
      have HKF : Hid (Keep [] w w12) := (HK1.out.then HKS.out).trans k12 (fun y hy hl => by simp only [List.mem_cons, List.not_mem_nil, or_false] at hy; omega)
      clear d12 k12 hb2
      go_wp2
      refine bodyPost_ret (results_blk rfl _ rfl (vs := hdCells ⟨0, 0, 0, false, false, h.trials⟩) HD.out HA.out) rfl ?_
      rw [HST2.out]
      exact ⟨rfl, HKF.out⟩
    | false =>
      by_cases hgt : rm < h.long
      · have HST2 : Hid (st = ⟨0, 0, 0, false, false, h.trials⟩) := by show _ = _; rw [HST.out, if_pos (.inr hgt)]
        have q0 : decide ((rm : Int) < (h.long : Int)) = true := decide_eq_true (by omega)
        have p0 := eq_true hgt
        go_upto_region 2 with fail
        refine wp_region_flow (Keep [] w9) rfl (by kernel_rfl) (Keep.refl _ _).drew ?_
        (refine fl_val (v := ?_) (by rfl) ?_ ?_; rotate_left; (intro w' hS; obtain ⟨f0,f1,f2⟩ := hF2 w' hS; go_simp; with_reducible rfl); simp only [Act.put, List.setIfInBounds_toArray, List.set_cons_zero, List.set_cons_succ])
        refine fl_call (f := 31) (v := .bool false) (by rfl) rfl (by simp only [List.map_toArray, List.map_cons, List.map_nil]; rfl) Try.func31 (by kernel_rfl) (by kernel_rfl) (fun w' hS => ((HVO9.out w' hS))) ?_; simp only [Act.put, List.setIfInBounds_toArray, List.set_cons_zero, List.set_cons_succ]
        iterate 6 (refine fl_val (v := ?_) (by rfl) ?_ ?_; rotate_left; (intro w' hS; obtain ⟨f0,f1,f2⟩ := hF2 w' hS; go_simp; with_reducible rfl); simp only [Act.put, List.setIfInBounds_toArray, List.set_cons_zero, List.set_cons_succ])
        refine fl_call (f := 30) (v := .int .i64 (rm : Int)) (by rfl) rfl (by simp only [List.map_toArray, List.map_cons, List.map_nil]; rfl) Try.func30 (by kernel_rfl) (by kernel_rfl) (fun w' hS => ((HRO9.out w' hS))) ?_; simp only [Act.put, List.setIfInBounds_toArray, List.set_cons_zero, List.set_cons_succ]
        (refine fl_val (v := ?_) (by rfl) ?_ ?_; rotate_left; (intro w' hS; obtain ⟨f0,f1,f2⟩ := hF2 w' hS; go_simp; with_reducible rfl); simp only [Act.put, List.setIfInBounds_toArray, List.set_cons_zero, List.set_cons_succ])
        (refine fl_val (v := ?_) (by rfl) ?_ ?_; rotate_left; (intro w' hS; obtain ⟨f0,f1,f2⟩ := hF2 w' hS; go_simp; with_reducible rfl); simp only [Act.put, List.setIfInBounds_toArray, List.set_cons_zero, List.set_cons_succ])
        refine fl_nil ?_
        intro w10 hS
        have c35 : w10.cell? ⟨B3, 5, none⟩ = some (.int .i64 (h.trials : Int)) := (HB3.out.keep0 hS).cell 5
        have hb2 := HB29.out.keep0 hS
        have HKS := Lib.hid (HK9.out.then hS)
        clear hS hF2 HVO9 HRO9
        go_wp2_with (refine stop_store 70 (.tmp 2) (.tmp 28) rfl ?_)
        constructor
        refine wpList_store_all rfl 70 (.tmp 2) (.tmp 28) rfl rfl rfl (t := 70) (cs := #[.int .u32 0, .int .u32 0, .int .u32 0, .bool false, .bool false, .int .i64 0]) (vs := hdCells ⟨0, 0, 0, false, false, h.trials⟩) HA.out.2 hb2 (by simp [Value.oneCell']) rfl ?_
        intro w12 d12 k12
        have HD := Lib.hid d12
        have HKF : Hid (Keep [] w w12) := (HK1.out.then HKS.out).trans k12 (fun y hy hl => by simp only [List.mem_cons, List.not_mem_nil, or_false] at hy; omega)
        clear d12 k12 hb2
        go_wp2
        refine bodyPost_ret (results_blk rfl _ rfl (vs := hdCells ⟨0, 0, 0, false, false, h.trials⟩) HD.out HA.out) rfl ?_
        rw [HST2.out]
        exact ⟨rfl, HKF.out⟩
      · have HST2 : Hid (st = h) := by show _ = _; rw [HST.out, if_neg (by simp [hgt])]
        have q0 : decide ((rm : Int) < (h.long : Int)) = false := decide_eq_false (by omega)
        have p0 := eq_false hgt
        go_upto_region 2 with fail
        refine wp_region_flow (Keep [] w9) rfl (by kernel_rfl) (Keep.refl _ _).drew ?_
        (refine fl_val (v := ?_) (by rfl) ?_ ?_; rotate_left; (intro w' hS; obtain ⟨f0,f1,f2⟩ := hF2 w' hS; go_simp; with_reducible rfl); simp only [Act.put, List.setIfInBounds_toArray, List.set_cons_zero, List.set_cons_succ])
        refine fl_call (f := 31) (v := .bool false) (by rfl) rfl (by simp only [List.map_toArray, List.map_cons, List.map_nil]; rfl) Try.func31 (by kernel_rfl) (by kernel_rfl) (fun w' hS => ((HVO9.out w' hS))) ?_; simp only [Act.put, List.setIfInBounds_toArray, List.set_cons_zero, List.set_cons_succ]
        iterate 6 (refine fl_val (v := ?_) (by rfl) ?_ ?_; rotate_left; (intro w' hS; obtain ⟨f0,f1,f2⟩ := hF2 w' hS; go_simp; with_reducible rfl); simp only [Act.put, List.setIfInBounds_toArray, List.set_cons_zero, List.set_cons_succ])
        refine fl_call (f := 30) (v := .int .i64 (rm : Int)) (by rfl) rfl (by simp only [List.map_toArray, List.map_cons, List.map_nil]; rfl) Try.func30 (by kernel_rfl) (by kernel_rfl) (fun w' hS => ((HRO9.out w' hS))) ?_; simp only [Act.put, List.setIfInBounds_toArray, List.set_cons_zero, List.set_cons_succ]
        (refine fl_val (v := ?_) (by rfl) ?_ ?_; rotate_left; (intro w' hS; obtain ⟨f0,f1,f2⟩ := hF2 w' hS; go_simp; with_reducible rfl); simp only [Act.put, List.setIfInBounds_toArray, List.set_cons_zero, List.set_cons_succ])
        (refine fl_val (v := ?_) (by rfl) ?_ ?_; rotate_left; (intro w' hS; obtain ⟨f0,f1,f2⟩ := hF2 w' hS; go_simp; with_reducible rfl); simp only [Act.put, List.setIfInBounds_toArray, List.set_cons_zero, List.set_cons_succ])
        refine fl_nil ?_
        intro w10 hS
        have hb3 := HB3.out.keep0 hS
        have hb2 := HB29.out.keep0 hS
        have HKS := Lib.hid (HK9.out.then hS)
        clear hS hF2 HVO9 HRO9
        go_wp2_with (first
          | (refine wpList_load_agg rfl 70 (.tmp 3) rfl rfl (cs := hdCells h) HA.out ?_ ?_; exact hb3.cellsAt)
          | (refine stop_store 70 (.tmp 2) (.tmp 29) rfl ?_))
        constructor
        refine wpList_store_all rfl 70 (.tmp 2) (.tmp 29) rfl rfl rfl (t := 70) (cs := #[.int .u32 0, .int .u32 0, .int .u32 0, .bool false, .bool false, .int .i64 0]) (vs := hdCells h) HA.out.2 hb2 (by simp [Value.oneCell']) rfl ?_
        intro w12 d12 k12
        have HD := Lib.hid d12
        have HKF : Hid (Keep [] w w12) := (HK1.out.then HKS.out).trans k12 (fun y hy hl => by simp only [List.mem_cons, List.not_mem_nil, or_false] at hy; omega)
        clear d12 k12 hb2 hb3
        go_wp2
        refine bodyPost_ret (results_blk rfl _ rfl (vs := hdCells h) HD.out HA.out) rfl ?_
        rw [HST2.out]
        exact ⟨rfl, HKF.out⟩
end
end Go.Proofs.Yteanpgkonhdbpaa
