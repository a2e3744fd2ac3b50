/- bank.Try, Open, walked. Condition: the device is one that may be, the bank one that fits. -/
import Derived.Test.YteanpgkonhdbpaaBkZ
namespace Go.Proofs.Yteanpgkonhdbpaa
open Go.RowKit

section
variable (gb g b1 b2 : Nat) (d : Dev) (b : BkS) (w : World) (hb : BankAt w gb g b) (hd : DevAt w g b1 b2 d) (ho : d.Ok) (hk : BkOk d b)
include hb
set_option maxRecDepth 100000 in
set_option maxHeartbeats 1000000 in
theorem bopen_any : Calls Try.prog 28 #[.pointer (some ⟨gb, 0, none⟩)] w fun e w' => e = .returned (.tuple #[.int .i64 (b.pn : Int), .bool b.opn]) ∧ Keep [] w w' := by
  have hG : ∀ W, Keep [] w W → W.cell? ⟨gb, 3, none⟩ = some (.bool b.opn) ∧ W.cell? ⟨gb, 4, none⟩ = some (.int .i64 (b.pn : Int)) ∧ True := fun W k => ⟨(hb.keep0 k).cells.2.2.2.1, (hb.keep0 k).cells.2.2.2.2, trivial⟩
  obtain ⟨c0, c1, c2, c3, c4⟩ := hb.cells
  clear hb
  go_enter Try.func28, Try.ntmps28
  go_upto_region 1 with fail
  refine wp_region_flow (Keep [] w) rfl (by kernel_rfl) (Keep.refl _ _).drew ?_
  iterate 10 (refine fl_val (v := ?_) (by rfl) ?_ ?_; rotate_left; (intro w' hS; obtain ⟨f0,f1,f2⟩ := hG w' hS; go_simp; with_reducible rfl); simp only [Act.put, List.setIfInBounds_toArray, List.set_cons_zero, List.set_cons_succ])
  refine fl_nil ?_
  intro w4 hS
  go_wp2
  go_ret2
  exact ⟨rfl, hS⟩

include hd ho hk
set_option maxRecDepth 100000 in
set_option maxHeartbeats 8000000 in
theorem btry_any : Calls Try.prog 82 #[.pointer (some ⟨gb, 0, none⟩)] w fun e w' => e = .returned (.int .i64 (tryB d b).2) ∧ LeftB w w' gb g b1 b2 (tryB d b).1 b := by
  have hns := ho.ns2
  have hf := hk.fits
  have h3 := hk.three
  have hA : AggOf Try.prog 70 6 := ⟨by kernel_rfl, by kernel_rfl⟩
  have HST := Lib.hid (bstate_any gb g b1 b2 d b w hb hd ho hk)
  have HTR : Hid (tryB d b = if d.on = false then (d, 63) else if (stateB d b).valid = false ∨ (stateB d b).conf = true then (d, 80)
    else match nextT (secB d b 1) 3 0 with
      | none => (d, 80)
      | some i => progS d ((b.base + 1 : Nat) : Int) (i : Int) 0) := show _ = _ from rfl
  obtain ⟨st, hst⟩ : ∃ st, stateB d b = st := ⟨_, rfl⟩
  rw [hst] at HST HTR
  generalize tryB d b = res at *
  clear hst
  have HB := Lib.hid hb
  have HD := Lib.hid hd
  have HON : Hid (∀ W, Keep [] w W → Calls Try.prog 21 #[.pointer (some ⟨g, 0, none⟩)] W fun e w' => e = .returned (.bool d.on) ∧ W = w') := fun W k => fon_any g b1 b2 d W (HD.out.keep0 k)
  have HSE : Hid (∀ W, Keep [] w W → Calls Try.prog 39 #[.pointer (some ⟨g, 0, none⟩), .int .i64 ((b.base + 1 : Nat) : Int)] W (RetWords W (secB d b 1))) := fun W k => by
    have := fsector_any g b1 b2 d ((b.base + 1 : Nat) : Int) W (hd.keep0 k) ho
    unfold sectS at this
    rw [if_pos (by omega)] at this
    exact this
  have hsl : (secB d b 1).length ≤ 100000 := by
    have hnw := ho.nw2
    have : (secB d b 1).length = d.nw := sectL_len d ho (b.base + 1) (by omega)
    omega
  have HNX : Hid (∀ W A n c, (secB d b 1).length = n → Reads W 1 A n (wordsV (secB d b 1)) → Calls Try.prog 124 #[.slice A n c] W fun e w' => e = .returned (nextV (nextT (secB d b 1) 3 0)) ∧ W = w') := fun W A n c hl hr => hnext_any A n c (secB d b 1) W hl hr (by omega)
  obtain ⟨nx, hnx⟩ : ∃ nx, nextT (secB d b 1) 3 0 = nx := ⟨_, rfl⟩
  rw [hnx] at HTR HNX
  generalize secB d b 1 = sl at *
  have HNV : Hid (nextV nx = .tuple #[.int .i64 ((nx.getD 0 : Nat) : Int), .bool nx.isSome]) := show _ = _ from rfl
  have HPR : Hid (∀ W, Keep [] w W → ∀ i : Nat, Calls Try.prog 67 #[.pointer (some ⟨g, 0, none⟩), .int .i64 ((b.base + 1 : Nat) : Int), .int .i64 (i : Int), .int .u32 0] W (Leaves W g b1 b2 (progS d ((b.base + 1 : Nat) : Int) (i : Int) 0).1 (progS d ((b.base + 1 : Nat) : Int) (i : Int) 0).2)) := fun W k i => fprog_any g b1 b2 d _ _ 0 W (HD.out.keep0 k) ho (by decide)
  have hwb : IntKind.i64.wrap ((b.base : Int) + 1) = ((b.base + 1 : Nat) : Int) := by rw [show (b.base : Int) + 1 = ((b.base + 1 : Nat) : Int) by omega]; exact IntWalk.i64_in _ (by omega)
  have HLF : Hid (∀ W, Keep [] w W → LeftB w W gb g b1 b2 d b) := fun W k => ⟨HD.out.keep0 k, HB.out.keep0 k, k.mono (by simp)⟩
  have hG : ∀ W, Keep [] w W → W.cell? ⟨gb, 0, none⟩ = some (.pointer (some ⟨g, 0, none⟩)) ∧ W.cell? ⟨gb, 1, none⟩ = some (.int .i64 (b.base : Int)) ∧ True := fun W k => ⟨(HB.out.keep0 k).cells.1, (HB.out.keep0 k).cells.2.1, trivial⟩
  clear hb hd ho hk hnx
  go_enter Try.func82, Try.ntmps82
  go_wp2_with (first
    | (refine HST.out.mono ?_; rintro e w1 ⟨rfl, k1⟩)
    | (refine stop_store 70 (.tmp 3) (.tmp 7) rfl ?_))
  constructor
  refine wpList_store_all rfl 70 (.tmp 3) (.tmp 7) rfl rfl rfl (t := 70) (cs := #[.int .u32 0, .int .u32 0, .int .u32 0, .bool false, .bool false, .int .i64 0]) (vs := hdCells st) hA.2 (Blk.new _ _ _) (by simp [Value.oneCell']) rfl ?_
  intro w2 d2 k2
  have K02 : Keep [] w w2 := k1.then (((Keep.refl [] w1).alloc _).trans k2 (fun y hy hl => by simp only [List.mem_cons, List.not_mem_nil, or_false] at hy; omega))
  have HBX : Hid (Blk w2 w1.heap.size 70 (hdCells st).toArray) := d2
  have cg := (HB.out.keep0 K02).cells.1
  have HKK := Lib.hid K02
  clear k1 k2 d2 K02 HST
  generalize w1.heap.size = B3 at *
  cases hon : d.on with
  | false =>
    rw [hon] at HON
    have HRS : Hid (res = (d, 63)) := by show _ = _; rw [HTR.out, if_pos hon]
    go_wp2_with (refine (HON.out w2 HKK.out).mono ?_; rintro e w3 ⟨rfl, rfl⟩)
    go_ret
    rw [HRS.out]
    exact ⟨rfl, HLF.out _ HKK.out⟩
  | true =>
    rw [hon] at HON
    have HTR2 := HTR.out
    rw [if_neg (by rw [hon]; decide)] at HTR2
    replace HTR := Lib.hid HTR2
    clear HTR2
    go_upto_region 4 with (refine (HON.out w2 HKK.out).mono ?_; rintro e w3 ⟨rfl, rfl⟩)
    have hG2 : ∀ W, Keep [] w2 W → W.cell? ⟨gb, 0, none⟩ = some (.pointer (some ⟨g, 0, none⟩)) ∧ W.cell? ⟨gb, 1, none⟩ = some (.int .i64 (b.base : Int)) ∧ True := fun W k => hG W (HKK.out.then k)
    go_cut [4, 5] from 6 (fun v4 v5 wx => v4 = .int .i64 ((nx.getD 0 : Nat) : Int) ∧ v5 = .bool nx.isSome ∧ Keep [] w2 wx)
    case first =>
      refine ap_begin 10 (Keep [] w2) rfl (Keep.refl _ _).drew (fun hS hPan => ?_) (fun _ _ d _ _ h => by cases d <;> exact h)
      (refine ap_val (v := ?_) 0 rfl (by kernel_rfl) (by kernel_rfl) (by kernel_rfl) (by kernel_rfl) (by rfl) hPan ?_ hS ?_; rotate_left; (intro w' hSw; go_simp; try with_reducible rfl); simp only [Act.put, List.setIfInBounds_toArray, List.set_cons_zero, List.set_cons_succ])
      (refine ap_val (v := ?_) 1 rfl (by kernel_rfl) (by kernel_rfl) (by kernel_rfl) (by kernel_rfl) (by rfl) hPan ?_ hS ?_; rotate_left; (intro w' hSw; go_simp; try with_reducible rfl); simp only [Act.put, List.setIfInBounds_toArray, List.set_cons_zero, List.set_cons_succ])
      (refine ap_val (v := ?_) 2 rfl (by kernel_rfl) (by kernel_rfl) (by kernel_rfl) (by kernel_rfl) (by rfl) hPan ?_ hS ?_; rotate_left; (intro w' hSw; go_simp; try with_reducible rfl); simp only [Act.put, List.setIfInBounds_toArray, List.set_cons_zero, List.set_cons_succ])
      (refine ap_val (v := ?_) 3 rfl (by kernel_rfl) (by kernel_rfl) (by kernel_rfl) (by kernel_rfl) (by rfl) hPan ?_ hS ?_; rotate_left; (intro w' hSw; obtain ⟨f0,f1,f2⟩ := hG2 w' hSw; go_simp; try with_reducible rfl); simp only [Act.put, List.setIfInBounds_toArray, List.set_cons_zero, List.set_cons_succ])
      (refine ap_val (v := ?_) 4 rfl (by kernel_rfl) (by kernel_rfl) (by kernel_rfl) (by kernel_rfl) (by rfl) hPan ?_ hS ?_; rotate_left; (intro w' hSw; go_simp; try with_reducible rfl); simp only [Act.put, List.setIfInBounds_toArray, List.set_cons_zero, List.set_cons_succ])
      (refine ap_val (v := ?_) 5 rfl (by kernel_rfl) (by kernel_rfl) (by kernel_rfl) (by kernel_rfl) (by rfl) hPan ?_ hS ?_; rotate_left; (intro w' hSw; go_simp; try with_reducible rfl); simp only [Act.put, List.setIfInBounds_toArray, List.set_cons_zero, List.set_cons_succ])
      (refine ap_val (v := ?_) 6 rfl (by kernel_rfl) (by kernel_rfl) (by kernel_rfl) (by kernel_rfl) (by rfl) hPan ?_ hS ?_; rotate_left; (intro w' hSw; go_simp; try with_reducible rfl); simp only [Act.put, List.setIfInBounds_toArray, List.set_cons_zero, List.set_cons_succ])
      (refine ap_val (v := ?_) 7 rfl (by kernel_rfl) (by kernel_rfl) (by kernel_rfl) (by kernel_rfl) (by rfl) hPan ?_ hS ?_; rotate_left; (intro w' hSw; obtain ⟨f0,f1,f2⟩ := hG2 w' hSw; go_simp; try with_reducible rfl); simp only [Act.put, List.setIfInBounds_toArray, List.set_cons_zero, List.set_cons_succ])
      (refine ap_val (v := ?_) 8 rfl (by kernel_rfl) (by kernel_rfl) (by kernel_rfl) (by kernel_rfl) (by rfl) hPan ?_ hS ?_; rotate_left; (intro w' hSw; go_simp; try with_reducible rfl); simp only [Act.put, List.setIfInBounds_toArray, List.set_cons_zero, List.set_cons_succ])
      generalize w2.drew = w4 at *
      refine ap_one 9 (by kernel_rfl) ?_
      refine op_call (f := 39) (vs := #[.pointer (some ⟨g, 0, none⟩), .int .i64 ((b.base + 1 : Nat) : Int)]) 9 rfl (by kernel_rfl) rfl (by simp only [List.map_toArray, List.map_cons, List.map_nil]; rfl) Try.func39 (by kernel_rfl) (by kernel_rfl) (HSE.out w4 (HKK.out.then hS)) ?_
      rintro e w5 ⟨A, c, rfl, hown, k5⟩
      have hrd := Reads.of_own hown
      have K5 : Keep [] w2 w5 := hS.then k5
      refine ⟨_, rfl, fun _ => K5, ?_⟩
      (simp only [Act.put, List.setIfInBounds_toArray, List.set_cons_zero, List.set_cons_succ])
      refine ap_one 10 (by kernel_rfl) ?_
      refine op_call (f := 124) (vs := #[.slice A sl.length c]) 10 rfl (by kernel_rfl) rfl (by simp only [List.map_toArray, List.map_cons, List.map_nil]; rfl) Try.func124 (by kernel_rfl) (by kernel_rfl) (HNX.out w5 A _ c rfl hrd) ?_
      rintro e w6 ⟨rfl, rfl⟩
      refine ⟨_, rfl, fun _ => K5, ?_⟩
      (simp only [Act.put, List.setIfInBounds_toArray, List.set_cons_zero, List.set_cons_succ])
      have HK5 := Lib.hid K5
      clear hown hrd hS k5 K5 hG2 hPan
      rw [HNV.out]
      refine ap_one 11 (by kernel_rfl) ?_
      refine op_run (v := .tuple #[.int .i64 ((nx.getD 0 : Nat) : Int), .bool nx.isSome]) (w' := w5) 11 rfl (by kernel_rfl) (by go_simp) ?_
      refine ⟨fun h => (by cases h), ?_⟩
      (simp only [Act.put, List.setIfInBounds_toArray, List.set_cons_zero, List.set_cons_succ])
      refine ap_twoJ 12 13 (by kernel_rfl) ?x1 ?y1
      case x1 =>
        refine op_run (v := .int .i64 ((nx.getD 0 : Nat) : Int)) (w' := w5) 12 rfl (by kernel_rfl) (by go_simp) ?_
        refine ⟨fun h => (by cases h), ?_⟩
        (simp only [Act.put, List.setIfInBounds_toArray, List.set_cons_zero, List.set_cons_succ])
        refine ap_twoJ 13 14 (by kernel_rfl) ?x2 ?y2
        case x2 =>
          refine op_run (v := .bool nx.isSome) (w' := w5) 13 rfl (by kernel_rfl) (by go_simp) ?_
          refine ⟨fun h => (by cases h), ?_⟩
          (simp only [Act.put, List.setIfInBounds_toArray, List.set_cons_zero, List.set_cons_succ])
          refine ap_one 14 (by kernel_rfl) ?_
          refine op_run (v := .int .i64 ((nx.getD 0 : Nat) : Int)) (w' := w5) 14 rfl (by kernel_rfl) (by go_simp) ?_
          refine ⟨fun h => (by cases h), ?_⟩
          (simp only [Act.put, List.setIfInBounds_toArray, List.set_cons_zero, List.set_cons_succ])
          refine ap_one 15 (by kernel_rfl) ?_
          refine op_run (v := .bool nx.isSome) (w' := w5) 15 rfl (by kernel_rfl) (by go_simp) ?_
          refine ⟨fun h => (by cases h), ap_done (by kernel_rfl) ?_ _⟩
          (simp only [Act.put, List.setIfInBounds_toArray, List.set_cons_zero, List.set_cons_succ])
          go_wp2_with fail
          go_meet
          case rel => exact ⟨rfl, rfl, HK5.out⟩
        case y2 =>
          refine op_run (v := .int .i64 ((nx.getD 0 : Nat) : Int)) (w' := w5) 14 rfl (by kernel_rfl) (by go_simp) ?_
          refine ⟨fun h => (by cases h), ?_⟩
          (simp only [Act.put, List.setIfInBounds_toArray, List.set_cons_zero, List.set_cons_succ])
          refine ap_one 13 (by kernel_rfl) ?_
          refine op_run (v := .bool nx.isSome) (w' := w5) 13 rfl (by kernel_rfl) (by go_simp) ?_
          refine ⟨fun h => (by cases h), ?_⟩
          (simp only [Act.put, List.setIfInBounds_toArray, List.set_cons_zero, List.set_cons_succ])
          refine ap_one 15 (by kernel_rfl) ?_
          refine op_run (v := .bool nx.isSome) (w' := w5) 15 rfl (by kernel_rfl) (by go_simp) ?_
          refine ⟨fun h => (by cases h), ap_done (by kernel_rfl) ?_ _⟩
          (simp only [Act.put, List.setIfInBounds_toArray, List.set_cons_zero, List.set_cons_succ])
          go_wp2_with fail
          go_meet
          case rel => exact ⟨rfl, rfl, HK5.out⟩
      case y1 =>
        refine op_run (v := .bool nx.isSome) (w' := w5) 13 rfl (by kernel_rfl) (by go_simp) ?_
        refine ⟨fun h => (by cases h), ?_⟩
        (simp only [Act.put, List.setIfInBounds_toArray, List.set_cons_zero, List.set_cons_succ])
        refine ap_one 12 (by kernel_rfl) ?_
        refine op_run (v := .int .i64 ((nx.getD 0 : Nat) : Int)) (w' := w5) 12 rfl (by kernel_rfl) (by go_simp) ?_
        refine ⟨fun h => (by cases h), ?_⟩
        (simp only [Act.put, List.setIfInBounds_toArray, List.set_cons_zero, List.set_cons_succ])
        refine ap_one 14 (by kernel_rfl) ?_
        refine op_run (v := .int .i64 ((nx.getD 0 : Nat) : Int)) (w' := w5) 14 rfl (by kernel_rfl) (by go_simp) ?_
        refine ⟨fun h => (by cases h), ?_⟩
        (simp only [Act.put, List.setIfInBounds_toArray, List.set_cons_zero, List.set_cons_succ])
        refine ap_one 15 (by kernel_rfl) ?_
        refine op_run (v := .bool nx.isSome) (w' := w5) 15 rfl (by kernel_rfl) (by go_simp) ?_
        refine ⟨fun h => (by cases h), ap_done (by kernel_rfl) ?_ _⟩
        (simp only [Act.put, List.setIfInBounds_toArray, List.set_cons_zero, List.set_cons_succ])
        go_wp2_with fail
        go_meet
        case rel => exact ⟨rfl, rfl, HK5.out⟩
    obtain ⟨rfl, rfl, kc⟩ := hcut
    generalize wc = w5 at *
    have HB5 := Lib.hid (HBX.out.keep0 kc)
    have HK5 := Lib.hid (HKK.out.then kc)
    have c31 : w5.cell? ⟨B3, 3, none⟩ = some (.bool st.valid) := HB5.out.cell 3
    have c32 : w5.cell? ⟨B3, 4, none⟩ = some (.bool st.conf) := HB5.out.cell 4
    clear kc cg hG2 HSE HNX
    by_cases hvc : st.valid = false ∨ st.conf = true
    · have HRS : Hid (res = (d, 80)) := by show _ = _; rw [HTR.out, if_pos hvc]
      cases hv : st.valid with
      | false =>
        rw [hv] at c31
        go_wp2
        go_ret
        rw [HRS.out]
        exact ⟨rfl, HLF.out _ HK5.out⟩
      | true =>
        have hc : st.conf = true := hvc.resolve_left (by rw [hv]; decide)
        rw [hv] at c31
        rw [hc] at c32
        go_wp2
        go_ret
        rw [HRS.out]
        exact ⟨rfl, HLF.out _ HK5.out⟩
    · have hv : st.valid = true := by cases h : st.valid with | true => rfl | false => exact absurd (.inl h) hvc
      have hc : st.conf = false := by cases h : st.conf with | false => rfl | true => exact absurd (.inr h) hvc
      have HTR2 := HTR.out
      rw [if_neg hvc] at HTR2
      replace HTR := Lib.hid HTR2
      rw [hv] at c31
      rw [hc] at c32
      clear HTR2 hvc
      cases nx with
      | none =>
        have HRS : Hid (res = (d, 80)) := HTR.out
        go_wp2
        go_ret
        rw [HRS.out]
        exact ⟨rfl, HLF.out _ HK5.out⟩
      | some i =>
        have HRS : Hid (res = progS d ((b.base + 1 : Nat) : Int) (i : Int) 0) := HTR.out
        go_upto_region 7 with fail
        have hG2 : ∀ W, Keep [] w5 W → W.cell? ⟨gb, 0, none⟩ = some (.pointer (some ⟨g, 0, none⟩)) ∧ W.cell? ⟨gb, 1, none⟩ = some (.int .i64 (b.base : Int)) ∧ True := fun W k => hG W (HK5.out.then k)
        refine wp_region_flow_tail 10 (Keep [] w5) rfl (by kernel_rfl) (Keep.refl _ _).drew ?_
        iterate 10 (refine fl_val (v := ?_) (by rfl) ?_ ?_; rotate_left; (intro w' hS; obtain ⟨f0,f1,f2⟩ := hG2 w' hS; go_simp; with_reducible rfl); simp only [Act.put, List.setIfInBounds_toArray, List.set_cons_zero, List.set_cons_succ])
        refine fl_nil ?_
        intro w7 hS
        have K7 := HK5.out.then hS
        have HK7 := Lib.hid K7
        have HPQ := Lib.hid (HPR.out w7 K7 i)
        have hn7 := bank_ne (HD.out.keep0 K7) (HB.out.keep0 K7)
        have HB7 := Lib.hid (HB.out.keep0 K7)
        obtain ⟨d5, e5, hp5⟩ : ∃ d5 e5, progS d ((b.base + 1 : Nat) : Int) (i : Int) 0 = (d5, e5) := ⟨_, _, rfl⟩
        rw [hp5] at HRS HPQ
        dsimp only at HPQ
        clear hS K7 hp5 hG2 hG
        go_wp2_with (refine HPQ.out.mono ?_; rintro e w8 ⟨rfl, hd8, k8⟩)
        go_ret
        rw [HRS.out]
        exact ⟨rfl, hd8, Blk.keep HB7.out k8 (by simp only [List.mem_cons, List.not_mem_nil, or_false]; omega), (HK7.out.mono (by simp)).trans k8 (fun y hy _ => by simp only [List.mem_cons, List.not_mem_nil, or_false] at hy ⊢; omega)⟩
end
end Go.Proofs.Yteanpgkonhdbpaa
