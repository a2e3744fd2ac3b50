/- The text of an image: the program, walked. Condition: the image is not more than is asked of any. -/
import Derived.Test.YtoepkhkaifgddaaSrcT
namespace Go.Proofs.Ytoepkhkaifgddaa
open Go.RowKit

set_option maxRecDepth 100000 in
set_option maxHeartbeats 8000000 in
theorem sprint_any (v : ImgV) (x : Img) (w : World) (h : ImgAt w v x) (hgr : greatImg x = false) :
    Calls Try.prog 20 #[.agg (imgCells v x).toArray] w fun e w' => e = .returned (strOf (printT pairsT x)) ∧ Keep [] w w' := by
  obtain ⟨hlt, hlm, hle, hlq⟩ := greatImg_no hgr
  have htk := h.task
  have hmd := h.mode
  have hed := h.edge
  have hok := Lib.hid h.ok
  have hb := Blk.new w 26 (imgCells v x).toArray
  have hk0 := (Keep.refl [] w).alloc (.cells (imgCells v x).toArray 26)
  have hF0 : Hid (∀ W, Blk W w.heap.size 26 (imgCells v x).toArray → W.cell? ⟨w.heap.size, 0, none⟩ = some (.int .i64 x.res) ∧ W.cell? ⟨w.heap.size, 1, none⟩ = some (.slice v.ta x.tasks.length v.tc) ∧ W.cell? ⟨w.heap.size, 2, none⟩ = some (.slice v.ma x.modes.length v.mc) ∧ W.cell? ⟨w.heap.size, 3, none⟩ = some (.slice v.ea x.edges.length v.ec)) :=
    fun W hW => ⟨hW.cell 0, hW.cell 1, hW.cell 2, hW.cell 3⟩
  obtain ⟨c0, c1, c2, c3⟩ := hF0.out _ hb
  have HB := Lib.hid hb
  have HK0 := Lib.hid hk0
  have hr10 := decL_len10 x.res
  have HTR := fun W => Lib.hid (text_fix x.res W)
  have HPT : Hid (printT pairsT x = [114, 101, 115, 32] ++ (decL (clampN x.res) ++ (10 :: (x.tasks.flatMap (taskT pairsT) ++ (x.modes.flatMap modeT ++ x.edges.flatMap (edgeT pairsT)))))) := rfl
  generalize decL (clampN x.res) = dr at *
  obtain ⟨r1, er1⟩ := add_new [114, 101, 115, 32] dr
  obtain ⟨r2, er2⟩ := add_new r1 [10]
  have lr1 := add_len er1
  have lr2 := add_len er2
  simp only [List.length_cons, List.length_nil] at lr1 lr2
  have hadr1 : ∀ W, (binOp .add 9 (.string { data := #[114, 101, 115, 32] }) (strOf dr)).run Try.prog W = .ok (strOf r1) W := fun W => add_is er1 (by simp; omega) W
  have hadr2 : ∀ W, (binOp .add 9 (strOf r1) (.string { data := #[10] })).run Try.prog W = .ok (strOf r2) W := fun W => add_is er2 (by simp; omega) W
  clear hb hk0
  generalize hil : (imgCells v x).toArray = il at *
  clear hil
  go_enter Try.func20, Try.ntmps20
  go_wp2_with fail
  refine (HTR _).out.mono ?_
  rintro e w1 ⟨rfl, k1⟩
  have HK1 := Lib.hid (HK0.out.then k1)
  have HB1 := Lib.hid (HB.out.keep0 k1)
  clear k1 c0 c1 c2 c3 HTR
  obtain ⟨c0, c1, c2, c3⟩ := hF0.out _ HB1.out
  go_wp2
  go_loopw [3, 21] (fun v3 vi wr => ∃ k : Nat, k ≤ x.tasks.length ∧ vi = .int .i64 (k : Int) ∧ v3 = strOf (r2 ++ (x.tasks.take k).flatMap (taskT pairsT)) ∧ Blk wr w.heap.size 26 il ∧ Keep [] w wr) (fun _ vi _ => x.tasks.length - (intOf vi).toNat)
  case atStart => exact ⟨0, Nat.zero_le _, rfl, by simp, HB1.out, HK1.out⟩
  case round =>
    clear c0 c1 c2 c3
    obtain ⟨k, hk, rfl, rfl, hbi, hkw⟩ := hrel
    obtain ⟨c0, c1, c2, c3⟩ := hF0.out _ hbi
    by_cases hlk : k < x.tasks.length
    · obtain ⟨bt, ot, hA, hbt, hts⟩ := htk (by omega)
      have hce := (hts k hlk).keep0 hkw hbt
      have hlon : x.tasks[k].lon.length = 8 := hok.out.lon _ (List.getElem_mem hlk)
      have HL : Hid ((tskCells x.tasks[k]).length = 11) := show _ = _ from tskCells_len hlon
      have hone := tsk_one x.tasks[k]
      have hst : Hid (r2 ++ (x.tasks.take (k + 1)).flatMap (taskT pairsT) = (r2 ++ (x.tasks.take k).flatMap (taskT pairsT)) ++ taskT pairsT x.tasks[k]) := by show _ = _; rw [flat_step _ hlk, List.append_assoc]
      have hac : (r2 ++ (x.tasks.take k).flatMap (taskT pairsT)).length ≤ 20000 := by
        have h1 := flatT_len2 (taskT pairsT) 300 (x.tasks.take k) (fun t ht => taskT_len pairsT_le (hok.out.lon t (List.mem_of_mem_take ht)))
        have h2 : (x.tasks.take k).length ≤ 40 := by rw [List.length_take]; omega
        have h3 : (x.tasks.take k).length * 300 ≤ 40 * 300 := Nat.mul_le_mul_right _ h2
        rw [List.length_append]
        omega
      have HKW := Lib.hid hkw
      have HBI := Lib.hid hbi
      clear hts hkw
      rw [hA] at c1
      (try rw [hA])
      have HA := Lib.hid hA
      clear hA
      generalize x.tasks[k] = t at *
      have HT1 := fun W => Lib.hid (text_fix t.per W)
      have HT2 := fun W => Lib.hid (text_fix t.ded W)
      have HT3 := fun W => Lib.hid (text_fix t.cost W)
      have HPA := fun W g hh => Lib.hid (pairs_any (some ⟨g, 3, none⟩) 8 t.lon [58] W hh (by omega) rfl)
      rw [hlon] at HPA
      have hp10 := decL_len10 t.per
      have hd10 := decL_len10 t.ded
      have hc10 := decL_len10 t.cost
      have hq10 := pairsT_len [58] t.lon 0
      rw [hlon] at hq10
      have HPP := fun d1 d2 d3 d4 d5 d6 d7 => taskT_parts (P := pairsT) (t := t) (d1 := d1) (d2 := d2) (d3 := d3) (d4 := d4) (d5 := d5) (d6 := d6) (d7 := d7) rfl rfl rfl rfl
      generalize decL (clampN t.per) = dp at *
      generalize decL (clampN t.ded) = dd at *
      generalize decL (clampN t.cost) = dc at *
      generalize pairsT [58] 0 t.lon = dq at *
      generalize r2 ++ (x.tasks.take k).flatMap (taskT pairsT) = acc at *
      obtain ⟨d1, e1⟩ := add_new [116, 97, 115, 107, 32] dp
      obtain ⟨d2, e2⟩ := add_new d1 [32]
      obtain ⟨d3, e3⟩ := add_new d2 dd
      obtain ⟨d4, e4⟩ := add_new d3 [32]
      obtain ⟨d5, e5⟩ := add_new d4 dc
      obtain ⟨d6, e6⟩ := add_new d5 dq
      obtain ⟨d7, e7⟩ := add_new d6 [10]
      obtain ⟨d8, e8⟩ := add_new acc d7
      have l1 := add_len e1
      have l2 := add_len e2
      have l3 := add_len e3
      have l4 := add_len e4
      have l5 := add_len e5
      have l6 := add_len e6
      have l7 := add_len e7
      simp only [List.length_cons, List.length_nil] at l1 l2 l3 l4 l5 l6 l7 hq10
      have hE := Lib.hid (HPP d1 d2 d3 d4 d5 d6 d7 e1 e2 e3 e4 e5 e6 e7)
      have hcl : Hid (∀ g W, Blk W g 71 (tskCells t).toArray → W.cell? ⟨g, 0, none⟩ = some (.int .i64 t.per) ∧ W.cell? ⟨g, 1, none⟩ = some (.int .i64 t.ded) ∧ W.cell? ⟨g, 2, none⟩ = some (.int .i64 t.cost) ∧ Reads W 1 (some ⟨g, 3, none⟩) 8 (iv t.lon)) := fun g W hW =>
        ⟨hW.cell 0, hW.cell 1, hW.cell 2, by have := reads_blk (o := 3) (l := t.lon) hW (fun j hj => by simp [tskCells, tskInts, Nat.add_comm 3 j, hj]); rw [hlon] at this; exact this⟩
      clear HPP hlon
      generalize tskCells t = tc at *
      go_wp2_with (first
        | (refine wpList_load_agg rfl 71 (.tmp 23) rfl rfl (cs := tc) (by rw [HL.out]; exact agg_task) hce ?_)
        | (refine stop_store 71 (.tmp 5) (.tmp 24) rfl ?_))
      constructor
      refine wpList_store_all rfl 71 (.tmp 5) (.tmp 24) rfl rfl rfl (vs := tc) (by rw [HL.out]; exact agg_task.2) (Blk.new _ _ _) hone (by rw [HL.out]; rfl) ?_
      intro w2 hb2 hk2
      have kr2 : Keep [] wr w2 := ((Keep.refl [] wr).alloc _).trans hk2 (fun y hy h => by simp at hy h; omega)
      have HKA := Lib.hid (HKW.out.then kr2)
      have HBA := Lib.hid (HBI.out.keep0 kr2)
      have HIF : Hid (∀ w', Keep [] w2 w' → w'.cell? ⟨wr.heap.size, 0, none⟩ = some (.int .i64 t.per) ∧ w'.cell? ⟨wr.heap.size, 1, none⟩ = some (.int .i64 t.ded) ∧ w'.cell? ⟨wr.heap.size, 2, none⟩ = some (.int .i64 t.cost) ∧ Reads w' 1 (some ⟨wr.heap.size, 3, none⟩) 8 (iv t.lon)) := fun w' k => hcl.out _ _ (hb2.keep0 k)
      clear hb2 hk2 kr2 hce hcl hbi c0 c1 c2 c3
      generalize wr.heap.size = g at *
      go_wp2
      have hF := HIF.out
      refine wp_region_flow (Keep [] w2) rfl (by kernel_rfl) (Keep.refl _ _).drew ?_
      repeat (refine fl_val (v := ?_) (by rfl) ?_ ?_; rotate_left; (intro w' hS; obtain ⟨f1,f2,f3,_⟩ := hF w' hS; go_simp; with_reducible rfl); simp only [Act.put, List.setIfInBounds_toArray, List.set_cons_zero, List.set_cons_succ])
      refine fl_call (f := 38) (v := strOf dp) (by rfl) rfl (by simp only [List.map_toArray, List.map_cons, List.map_nil]; rfl) Try.func38 (by kernel_rfl) (by kernel_rfl) (fun w' hS => (HT1 w').out.mono fun e w'' hh => ⟨hh.1, hS.then hh.2⟩) ?_; simp only [Act.put, List.setIfInBounds_toArray, List.set_cons_zero, List.set_cons_succ]
      (refine fl_val (by rfl) (fun w' _ => exec_is e1 rfl rfl (by (try simp only [List.length_cons, List.length_nil]); omega) w') ?_; simp only [Act.put, List.setIfInBounds_toArray, List.set_cons_zero, List.set_cons_succ])
      (refine fl_val (by rfl) (fun w' _ => exec_is e2 rfl rfl (by (try simp only [List.length_cons, List.length_nil]); omega) w') ?_; simp only [Act.put, List.setIfInBounds_toArray, List.set_cons_zero, List.set_cons_succ])
      repeat (refine fl_val (v := ?_) (by rfl) ?_ ?_; rotate_left; (intro w' hS; obtain ⟨f1,f2,f3,_⟩ := hF w' hS; go_simp; with_reducible rfl); simp only [Act.put, List.setIfInBounds_toArray, List.set_cons_zero, List.set_cons_succ])
      refine fl_call (f := 38) (v := strOf dd) (by rfl) rfl (by simp only [List.map_toArray, List.map_cons, List.map_nil]; rfl) Try.func38 (by kernel_rfl) (by kernel_rfl) (fun w' hS => (HT2 w').out.mono fun e w'' hh => ⟨hh.1, hS.then hh.2⟩) ?_; simp only [Act.put, List.setIfInBounds_toArray, List.set_cons_zero, List.set_cons_succ]
      (refine fl_val (by rfl) (fun w' _ => exec_is e3 rfl rfl (by (try simp only [List.length_cons, List.length_nil]); omega) w') ?_; simp only [Act.put, List.setIfInBounds_toArray, List.set_cons_zero, List.set_cons_succ])
      (refine fl_val (by rfl) (fun w' _ => exec_is e4 rfl rfl (by (try simp only [List.length_cons, List.length_nil]); omega) w') ?_; simp only [Act.put, List.setIfInBounds_toArray, List.set_cons_zero, List.set_cons_succ])
      repeat (refine fl_val (v := ?_) (by rfl) ?_ ?_; rotate_left; (intro w' hS; obtain ⟨f1,f2,f3,_⟩ := hF w' hS; go_simp; with_reducible rfl); simp only [Act.put, List.setIfInBounds_toArray, List.set_cons_zero, List.set_cons_succ])
      refine fl_call (f := 38) (v := strOf dc) (by rfl) rfl (by simp only [List.map_toArray, List.map_cons, List.map_nil]; rfl) Try.func38 (by kernel_rfl) (by kernel_rfl) (fun w' hS => (HT3 w').out.mono fun e w'' hh => ⟨hh.1, hS.then hh.2⟩) ?_; simp only [Act.put, List.setIfInBounds_toArray, List.set_cons_zero, List.set_cons_succ]
      (refine fl_val (by rfl) (fun w' _ => exec_is e5 rfl rfl (by (try simp only [List.length_cons, List.length_nil]); omega) w') ?_; simp only [Act.put, List.setIfInBounds_toArray, List.set_cons_zero, List.set_cons_succ])
      repeat (refine fl_val (v := ?_) (by rfl) ?_ ?_; rotate_left; (intro w' hS; obtain ⟨f1,f2,f3,_⟩ := hF w' hS; go_simp; with_reducible rfl); simp only [Act.put, List.setIfInBounds_toArray, List.set_cons_zero, List.set_cons_succ])
      refine fl_call (f := 39) (v := strOf dq) (by rfl) rfl (by simp only [List.map_toArray, List.map_cons, List.map_nil]; rfl) Try.func39 (by kernel_rfl) (by kernel_rfl) (fun w' hS => (HPA w' g (hF w' hS).2.2.2).out.mono fun e w'' hh => ⟨hh.1, hS.then hh.2⟩) ?_; simp only [Act.put, List.setIfInBounds_toArray, List.set_cons_zero, List.set_cons_succ]
      (refine fl_val (by rfl) (fun w' _ => exec_is e6 rfl rfl (by (try simp only [List.length_cons, List.length_nil]); omega) w') ?_; simp only [Act.put, List.setIfInBounds_toArray, List.set_cons_zero, List.set_cons_succ])
      (refine fl_val (by rfl) (fun w' _ => exec_is e7 rfl rfl (by (try simp only [List.length_cons, List.length_nil]); omega) w') ?_; simp only [Act.put, List.setIfInBounds_toArray, List.set_cons_zero, List.set_cons_succ])
      (refine fl_val (by rfl) (fun w' _ => exec_is e8 rfl rfl (by (try simp only [List.length_cons, List.length_nil]); omega) w') ?_; simp only [Act.put, List.setIfInBounds_toArray, List.set_cons_zero, List.set_cons_succ])
      repeat (refine fl_val (v := ?_) (by rfl) ?_ ?_; rotate_left; (intro w' hS; obtain ⟨f1,f2,f3,_⟩ := hF w' hS; go_simp; with_reducible rfl); simp only [Act.put, List.setIfInBounds_toArray, List.set_cons_zero, List.set_cons_succ])
      refine fl_nil ?_
      intro w4 hS
      have HK4 := Lib.hid (HKA.out.then hS)
      have HB4 := Lib.hid (HBA.out.keep0 hS)
      have hE8 : Hid (d8 = r2 ++ (x.tasks.take (k + 1)).flatMap (taskT pairsT)) := by show _ = _; rw [hst.out, e8.out, hE.out]
      clear hF hS
      go_wp2
      (try rw [← HA.out])
      go_roundw
      case rel => exact ⟨k + 1, by omega, by go_num, by rw [hE8.out], HB4.out, HK4.out⟩
      case measure => simp [intOf]; omega
    · have hall : x.tasks.take k = x.tasks := List.take_of_length_le (by omega)
      rw [hall]
      obtain ⟨r3, hr3⟩ : ∃ r3, r3 = r2 ++ x.tasks.flatMap (taskT pairsT) := ⟨_, rfl⟩
      have lr3 : r3.length ≤ 20000 := by
        have h1 := flatT_len2 (taskT pairsT) 300 x.tasks (fun t ht => taskT_len pairsT_le (hok.out.lon t ht))
        have h3 : x.tasks.length * 300 ≤ 40 * 300 := Nat.mul_le_mul_right _ hlt
        rw [hr3, List.length_append]
        omega
      rw [← hr3]
      have HR3 := Lib.hid hr3
      have HB2 := Lib.hid hbi
      have HK2 := Lib.hid hkw
      clear hall hr3 hbi hkw
      generalize wr = wo at *
      go_wp2
      clear hlk hk
      go_loopw [3, 50] (fun v3 vi wr => ∃ k : Nat, k ≤ x.modes.length ∧ vi = .int .i64 (k : Int) ∧ v3 = strOf (r3 ++ (x.modes.take k).flatMap modeT) ∧ Blk wr w.heap.size 26 il ∧ Keep [] w wr) (fun _ vi _ => x.modes.length - (intOf vi).toNat)
      case atStart => exact ⟨0, Nat.zero_le _, rfl, by simp, HB2.out, HK2.out⟩
      case round =>
        clear c0 c1 c2 c3
        obtain ⟨k, hk, rfl, rfl, hbi, hkw⟩ := hrel
        obtain ⟨c0, c1, c2, c3⟩ := hF0.out _ hbi
        by_cases hlk : k < x.modes.length
        · obtain ⟨bm, om, hA, hbm, hmo⟩ := hmd (by omega)
          obtain ⟨Aq, cq, hmc, hqs⟩ := hmo k hlk
          have hce := hmc.keep0 hkw hbm
          have q0 := hce 0 _ rfl
          rw [Nat.add_zero] at q0
          have q1 := hce 1 _ rfl
          have hqe := hqs.elems rfl (fun q _ => rfl)
          have hql := hlq _ (List.getElem_mem hlk)
          have hms : x.modes[k].set < 4294967296 := hok.out.set _ (List.getElem_mem hlk)
          have hst : Hid (r3 ++ (x.modes.take (k + 1)).flatMap modeT = (r3 ++ (x.modes.take k).flatMap modeT) ++ ([109, 111, 100, 101] ++ (bitsT x.modes[k].set 32 ++ (10 :: x.modes[k].qs.flatMap queT)))) := by show _ = _; rw [flat_step _ hlk, List.append_assoc]; rfl
          have hac : (r3 ++ (x.modes.take k).flatMap modeT).length ≤ 50000 := by
            have h1 := flatT_len2 modeT 1000 (x.modes.take k) (fun m hm => modeT_len (hlq m (List.mem_of_mem_take hm)))
            have h2 : (x.modes.take k).length ≤ 20 := by rw [List.length_take]; omega
            have h3 : (x.modes.take k).length * 1000 ≤ 20 * 1000 := Nat.mul_le_mul_right _ h2
            rw [List.length_append]
            omega
          have HKW := Lib.hid hkw
          have HBI := Lib.hid hbi
          clear hmo hkw hce hmc hqs
          rw [hA] at c2
          (try rw [hA])
          have HA := Lib.hid hA
          clear hA
          generalize r3 ++ (x.modes.take k).flatMap modeT = acc at *
          generalize x.modes[k] = m at *
          obtain ⟨ms, qs⟩ := m
          dsimp only at q0 q1 hqe hql hst hms
          obtain ⟨m1, em1⟩ := add_new acc [109, 111, 100, 101]
          have lm1 := add_len em1
          simp only [List.length_cons, List.length_nil] at lm1
          have hadm1 : ∀ W, (binOp .add 9 (strOf acc) (.string { data := #[109, 111, 100, 101] })).run Try.prog W = .ok (strOf m1) W := fun W => add_is em1 (by simp; omega) W
          have b7 := Blk.new wr 80 #[.int .u32 (ms : Int), .slice Aq qs.length cq]
          have kb := (Keep.refl [] wr).alloc (.cells #[.int .u32 (ms : Int), .slice Aq qs.length cq] 80)
          go_wp2
          obtain ⟨W1, hW1⟩ : ∃ W1, wr.alloc (.cells #[.int .u32 (ms : Int), .slice Aq qs.length cq] 80) = W1 := ⟨_, rfl⟩
          rw [hW1] at kb b7 ⊢
          have hg7 := HBI.out.lt
          generalize wr.heap.size = g7 at *
          have HKB := Lib.hid kb
          have HKQ := Lib.hid (HKW.out.then kb)
          have HB7 := Lib.hid b7
          clear hW1 kb b7 hbi q0 q1 c0 c1 c2 c3
          go_loopw [3, 56] (fun v3 vi wx => ∃ i : Nat, i ≤ 32 ∧ vi = .int .i64 (i : Int) ∧ v3 = strOf (m1 ++ bitsT ms i) ∧ Keep [] W1 wx) (fun _ vi _ => 32 - (intOf vi).toNat)
          case atStart => exact ⟨0, Nat.zero_le _, rfl, by simp [bitsT], Keep.refl _ _⟩
          case round =>
            obtain ⟨i, hi, rfl, rfl, hkx⟩ := hrel
            have f0 := (HB7.out.keep0 hkx).cell 0
            have f1 := (HB7.out.keep0 hkx).cell 1
            have HKX := Lib.hid hkx
            clear hkx
            by_cases hi2 : i < 32
            · have hbit := bit_and ms i hms
              have hsb := Lib.hid (bitsT_succ ms i)
              have hbl := bitsT_len ms i
              have hi0 : (0 : Int) ≤ (i : Int) := by omega
              have hbt : Hid (bitT ms i = if ms.testBit i then 32 :: decL (clampN (i : Int)) else []) := rfl
              cases htb : ms.testBit i
              · rw [htb] at hbit hbt
                have hE : Hid (m1 ++ bitsT ms (i + 1) = m1 ++ bitsT ms i) := by show _ = _; rw [hsb.out, hbt.out]; simp
                clear htb hsb hbt
                go_wp2
                go_roundw
                case rel => exact ⟨i + 1, by omega, by go_num, by rw [hE.out], HKX.out⟩
                case measure => simp [intOf]; omega
              · rw [htb] at hbit hbt
                have hi10 := decL_len10 (i : Int)
                have HTI := fun W => Lib.hid (text_fix (i : Int) W)
                have hE0 : Hid (m1 ++ bitsT ms (i + 1) = (m1 ++ bitsT ms i) ++ ([32] ++ decL (clampN (i : Int)))) := by show _ = _; rw [hsb.out, hbt.out, List.append_assoc]; rfl
                have hmb : (m1 ++ bitsT ms i).length ≤ 60000 := by rw [List.length_append]; omega
                generalize decL (clampN (i : Int)) = di at *
                generalize m1 ++ bitsT ms i = ac2 at *
                obtain ⟨d1, e1⟩ := add_new [32] di
                obtain ⟨d2, e2⟩ := add_new ac2 d1
                have l1 := add_len e1
                simp only [List.length_cons, List.length_nil] at l1
                have had1 : ∀ W, (binOp .add 9 (.string { data := #[32] }) (strOf di)).run Try.prog W = .ok (strOf d1) W := fun W => add_is e1 (by simp; omega) W
                have had2 := fun W => add_is e2 (by omega) W
                have hE : Hid (m1 ++ bitsT ms (i + 1) = d2) := by show _ = _; rw [hE0.out, e2.out, e1.out]
                clear htb hsb hbt hE0 l1
                go_wp2_with fail
                refine (HTI _).out.mono ?_
                rintro e w5 ⟨rfl, k5⟩
                have HK5 := Lib.hid (HKX.out.then k5)
                clear k5
                go_wp2
                go_roundw
                case rel => exact ⟨i + 1, by omega, by go_num, by rw [hE.out], HK5.out⟩
                case measure => simp [intOf]; omega
            · obtain rfl : i = 32 := by omega
              obtain ⟨m2, em2⟩ := add_new (m1 ++ bitsT ms 32) [10]
              have lm2 := add_len em2
              have hbl := bitsT_len ms 32
              have hm1b : (m1 ++ bitsT ms 32).length ≤ 60000 := by rw [List.length_append]; omega
              simp only [List.length_cons, List.length_nil] at lm2
              have hadm2 : ∀ W, (binOp .add 9 (strOf (m1 ++ bitsT ms 32)) (.string { data := #[10] })).run Try.prog W = .ok (strOf m2) W := fun W => add_is em2 (by simp; omega) W
              have hst2 : Hid (r3 ++ (x.modes.take (k + 1)).flatMap modeT = m2 ++ qs.flatMap queT) := by show _ = _; rw [hst.out, em2.out, em1.out]; simp
              generalize m1 ++ bitsT ms 32 = mb at *
              generalize wr = wo at *
              go_wp2
              go_loopw [3, 76] (fun v3 vi wx => ∃ i : Nat, i ≤ qs.length ∧ vi = .int .i64 (i : Int) ∧ v3 = strOf (m2 ++ (qs.take i).flatMap queT) ∧ Keep [] W1 wx) (fun _ vi _ => qs.length - (intOf vi).toNat)
              case atStart => exact ⟨0, Nat.zero_le _, rfl, by simp, HKX.out⟩
              case round =>
                obtain ⟨i, hi, rfl, rfl, hkx⟩ := hrel
                have HKY := Lib.hid hkx
                clear hkx
                by_cases hiq : i < qs.length
                · obtain ⟨bq, oq, hQ, hbq, hqc⟩ := hqe (by omega)
                  have hqk := (hqc i hiq).keep0 (HKQ.out.then HKY.out) hbq
                  rw [que_two] at hqk
                  have q0 := hqk 0 _ rfl
                  rw [Nat.add_zero] at q0
                  have q1 := hqk 1 _ rfl
                  have hsq : Hid (m2 ++ (qs.take (i + 1)).flatMap queT = (m2 ++ (qs.take i).flatMap queT) ++ queT qs[i]) := by show _ = _; rw [flat_step _ hiq, List.append_assoc]
                  have hqb : (m2 ++ (qs.take i).flatMap queT).length ≤ 70000 := by
                    have h1 := flatT_len2 queT 25 (qs.take i) (fun q _ => queT_len q)
                    have h2 : (qs.take i).length ≤ 20 := by rw [List.length_take]; omega
                    have h3 : (qs.take i).length * 25 ≤ 20 * 25 := Nat.mul_le_mul_right _ h2
                    rw [List.length_append]
                    omega
                  clear hqc hqk
                  (try rw [hQ])
                  (try rw [hQ] at f1)
                  have HQ := Lib.hid hQ
                  clear hQ
                  generalize m2 ++ (qs.take i).flatMap queT = acq at *
                  generalize qs[i] = q at *
                  obtain ⟨qc, qp⟩ := q
                  dsimp only at q0 q1 hsq
                  have HT1 := fun W => Lib.hid (text_fix qc W)
                  have HPO := fun W => Lib.hid (policy_any qp W)
                  have hp10 := decL_len10 qc
                  have hd10 := polW_len qp
                  have HPP := fun d1 d2 d3 d4 => queT_parts (q := ⟨qc, qp⟩) (d1 := d1) (d2 := d2) (d3 := d3) (d4 := d4) rfl rfl
                  generalize decL (clampN qc) = dp at *
                  generalize polW qp = dd at *
                  obtain ⟨d1, e1⟩ := add_new [113, 117, 101, 117, 101, 32] dp
                  obtain ⟨d2, e2⟩ := add_new d1 [32]
                  obtain ⟨d3, e3⟩ := add_new d2 dd
                  obtain ⟨d4, e4⟩ := add_new d3 [10]
                  obtain ⟨d5, e5⟩ := add_new acq d4
                  have l1 := add_len e1
                  have l2 := add_len e2
                  have l3 := add_len e3
                  have l4 := add_len e4
                  simp only [List.length_cons, List.length_nil] at l1 l2 l3 l4
                  have hE : Hid (m2 ++ (qs.take (i + 1)).flatMap queT = d5) := by show _ = _; rw [hsq.out, e5.out, HPP d1 d2 d3 d4 e1 e2 e3 e4]
                  have b8 := Blk.new wr 83 #[.int .i64 qc, .int .i64 qp]
                  have kb := (Keep.refl [] wr).alloc (.cells #[.int .i64 qc, .int .i64 qp] 83)
                  clear HPP hsq
                  go_wp2
                  obtain ⟨W2, hW2⟩ : ∃ W2, wr.alloc (.cells #[.int .i64 qc, .int .i64 qp] 83) = W2 := ⟨_, rfl⟩
                  rw [hW2] at kb b8 ⊢
                  generalize wr.heap.size = g8 at *
                  have HKB2 := Lib.hid (HKY.out.then kb)
                  have HIF : Hid (∀ w', Keep [] W2 w' → w'.cell? ⟨g8, 0, none⟩ = some (.int .i64 qc) ∧ w'.cell? ⟨g8, 1, none⟩ = some (.int .i64 qp)) := fun w' k => ⟨(b8.keep0 k).cell 0, (b8.keep0 k).cell 1⟩
                  clear hW2 kb b8 q0 q1
                  have hF := HIF.out
                  refine wp_region_flow (Keep [] W2) rfl (by kernel_rfl) (Keep.refl _ _).drew ?_
                  repeat (refine fl_val (v := ?_) (by rfl) ?_ ?_; rotate_left; (intro w' hS; obtain ⟨f1,f2⟩ := hF w' hS; go_simp; with_reducible rfl); simp only [Act.put, List.setIfInBounds_toArray, List.set_cons_zero, List.set_cons_succ])
                  refine fl_call (f := 38) (v := strOf dp) (by rfl) rfl (by simp only [List.map_toArray, List.map_cons, List.map_nil]; rfl) Try.func38 (by kernel_rfl) (by kernel_rfl) (fun w' hS => (HT1 w').out.mono fun e w'' hh => ⟨hh.1, hS.then hh.2⟩) ?_; simp only [Act.put, List.setIfInBounds_toArray, List.set_cons_zero, List.set_cons_succ]
                  (refine fl_val (by rfl) (fun w' _ => exec_is e1 rfl rfl (by (try simp only [List.length_cons, List.length_nil]); omega) w') ?_; simp only [Act.put, List.setIfInBounds_toArray, List.set_cons_zero, List.set_cons_succ])
                  (refine fl_val (by rfl) (fun w' _ => exec_is e2 rfl rfl (by (try simp only [List.length_cons, List.length_nil]); omega) w') ?_; simp only [Act.put, List.setIfInBounds_toArray, List.set_cons_zero, List.set_cons_succ])
                  repeat (refine fl_val (v := ?_) (by rfl) ?_ ?_; rotate_left; (intro w' hS; obtain ⟨f1,f2⟩ := hF w' hS; go_simp; with_reducible rfl); simp only [Act.put, List.setIfInBounds_toArray, List.set_cons_zero, List.set_cons_succ])
                  refine fl_call (f := 40) (v := strOf dd) (by rfl) rfl (by simp only [List.map_toArray, List.map_cons, List.map_nil]; rfl) Try.func40 (by kernel_rfl) (by kernel_rfl) (fun w' hS => (HPO w').out.mono fun e w'' hh => ⟨hh.1, hS.then hh.2⟩) ?_; simp only [Act.put, List.setIfInBounds_toArray, List.set_cons_zero, List.set_cons_succ]
                  (refine fl_val (by rfl) (fun w' _ => exec_is e3 rfl rfl (by (try simp only [List.length_cons, List.length_nil]); omega) w') ?_; simp only [Act.put, List.setIfInBounds_toArray, List.set_cons_zero, List.set_cons_succ])
                  (refine fl_val (by rfl) (fun w' _ => exec_is e4 rfl rfl (by (try simp only [List.length_cons, List.length_nil]); omega) w') ?_; simp only [Act.put, List.setIfInBounds_toArray, List.set_cons_zero, List.set_cons_succ])
                  (refine fl_val (by rfl) (fun w' _ => exec_is e5 rfl rfl (by (try simp only [List.length_cons, List.length_nil]); omega) w') ?_; simp only [Act.put, List.setIfInBounds_toArray, List.set_cons_zero, List.set_cons_succ])
                  repeat (refine fl_val (v := ?_) (by rfl) ?_ ?_; rotate_left; (intro w' hS; obtain ⟨f1,f2⟩ := hF w' hS; go_simp; with_reducible rfl); simp only [Act.put, List.setIfInBounds_toArray, List.set_cons_zero, List.set_cons_succ])
                  refine fl_nil ?_
                  intro w6 hS
                  have HK6 := Lib.hid (HKB2.out.then hS)
                  clear hF hS
                  go_wp2
                  (try rw [← HQ.out])
                  go_roundw
                  case rel => exact ⟨i + 1, by omega, by go_num, by rw [hE.out], HK6.out⟩
                  case measure => simp [intOf]; omega
                · have hqa : qs.take i = qs := List.take_of_length_le (by omega)
                  rw [hqa]
                  have HBZ := Lib.hid ((HBI.out.keep0 HKB.out).keep0 HKY.out)
                  have HKW2 := Lib.hid ((HKW.out.then HKB.out).then HKY.out)
                  clear hqa
                  go_wp2
                  (try rw [← HA.out])
                  go_roundw
                  case rel => exact ⟨k + 1, by omega, by go_num, by rw [hst2.out], HBZ.out, HKW2.out⟩
                  case measure => simp [intOf]; omega
        · have hall : x.modes.take k = x.modes := List.take_of_length_le (by omega)
          rw [hall]
          obtain ⟨r4, hr4⟩ : ∃ r4, r4 = r3 ++ x.modes.flatMap modeT := ⟨_, rfl⟩
          have lr4 : r4.length ≤ 50000 := by
            have h1 := flatT_len2 modeT 1000 x.modes (fun m hm => modeT_len (hlq m hm))
            have h3 : x.modes.length * 1000 ≤ 20 * 1000 := Nat.mul_le_mul_right _ hlm
            rw [hr4, List.length_append]
            omega
          rw [← hr4]
          have HR4 := Lib.hid hr4
          have HB3 := Lib.hid hbi
          have HK3 := Lib.hid hkw
          clear hall hr4 hbi hkw
          generalize wr = wo at *
          go_wp2
          clear hlk hk
          go_loopw [3, 97] (fun v3 vi wr => ∃ k : Nat, k ≤ x.edges.length ∧ vi = .int .i64 (k : Int) ∧ v3 = strOf (r4 ++ (x.edges.take k).flatMap (edgeT pairsT)) ∧ Blk wr w.heap.size 26 il ∧ Keep [] w wr) (fun _ vi _ => x.edges.length - (intOf vi).toNat)
          case atStart => exact ⟨0, Nat.zero_le _, rfl, by simp, HB3.out, HK3.out⟩
          case round =>
            clear c0 c1 c2 c3
            obtain ⟨k, hk, rfl, rfl, hbi, hkw⟩ := hrel
            obtain ⟨c0, c1, c2, c3⟩ := hF0.out _ hbi
            by_cases hlk : k < x.edges.length
            · obtain ⟨be, oe, hA, hbe, hes⟩ := hed (by omega)
              have hce := (hes k hlk).keep0 hkw hbe
              have hlo : x.edges[k].offs.length = 16 := hok.out.offs _ (List.getElem_mem hlk)
              have hlp : x.edges[k].mp.length = 4 := hok.out.mp _ (List.getElem_mem hlk)
              have HL : Hid ((edgCells x.edges[k]).length = 23) := show _ = _ from edgCells_len hlo hlp
              have hone : ∀ u ∈ edgCells x.edges[k], u.oneCell' = true := iv_one _
              have hst : Hid (r4 ++ (x.edges.take (k + 1)).flatMap (edgeT pairsT) = (r4 ++ (x.edges.take k).flatMap (edgeT pairsT)) ++ edgeT pairsT x.edges[k]) := by show _ = _; rw [flat_step _ hlk, List.append_assoc]
              have hac : (r4 ++ (x.edges.take k).flatMap (edgeT pairsT)).length ≤ 100000 := by
                have h1 := flatT_len2 (edgeT pairsT) 600 (x.edges.take k) (fun e he => edgeT_len pairsT_le (hok.out.offs e (List.mem_of_mem_take he)) (hok.out.mp e (List.mem_of_mem_take he)))
                have h2 : (x.edges.take k).length ≤ 60 := by rw [List.length_take]; omega
                have h3 : (x.edges.take k).length * 600 ≤ 60 * 600 := Nat.mul_le_mul_right _ h2
                rw [List.length_append]
                omega
              have HKW := Lib.hid hkw
              have HBI := Lib.hid hbi
              clear hes hkw
              rw [hA] at c3
              (try rw [hA])
              have HA := Lib.hid hA
              clear hA
              generalize x.edges[k] = t at *
              have HT1 := fun W => Lib.hid (text_fix t.frm W)
              have HT2 := fun W => Lib.hid (text_fix t.to W)
              have HPR := fun W => Lib.hid (protocol_any t.prot W)
              have HPA := fun W g hh => Lib.hid (pairs_any (some ⟨g, 19, none⟩) 4 t.mp [62] W hh (by omega) rfl)
              have HPB := fun W g hh => Lib.hid (pairs_any (some ⟨g, 3, none⟩) 16 t.offs [58] W hh (by omega) rfl)
              rw [hlp] at HPA
              rw [hlo] at HPB
              have hp10 := decL_len10 t.frm
              have hd10 := decL_len10 t.to
              have hc10 := proW_len t.prot
              have hq10 := pairsT_len [62] t.mp 0
              have hr10 := pairsT_len [58] t.offs 0
              rw [hlp] at hq10
              rw [hlo] at hr10
              have HPP := fun d1 d2 d3 d4 d5 d6 d7 d8 => edgeT_parts (P := pairsT) (e := t) (d1 := d1) (d2 := d2) (d3 := d3) (d4 := d4) (d5 := d5) (d6 := d6) (d7 := d7) (d8 := d8) rfl rfl rfl rfl rfl
              generalize decL (clampN t.frm) = dp at *
              generalize decL (clampN t.to) = dd at *
              generalize proW t.prot = dc at *
              generalize pairsT [62] 0 t.mp = dq at *
              generalize pairsT [58] 0 t.offs = dx at *
              generalize r4 ++ (x.edges.take k).flatMap (edgeT pairsT) = acc at *
              obtain ⟨d1, e1⟩ := add_new [101, 100, 103, 101, 32] dp
              obtain ⟨d2, e2⟩ := add_new d1 [32]
              obtain ⟨d3, e3⟩ := add_new d2 dd
              obtain ⟨d4, e4⟩ := add_new d3 [32]
              obtain ⟨d5, e5⟩ := add_new d4 dc
              obtain ⟨d6, e6⟩ := add_new d5 dq
              obtain ⟨d7, e7⟩ := add_new d6 dx
              obtain ⟨d8, e8⟩ := add_new d7 [10]
              obtain ⟨d9, e9⟩ := add_new acc d8
              have l1 := add_len e1
              have l2 := add_len e2
              have l3 := add_len e3
              have l4 := add_len e4
              have l5 := add_len e5
              have l6 := add_len e6
              have l7 := add_len e7
              have l8 := add_len e8
              simp only [List.length_cons, List.length_nil] at l1 l2 l3 l4 l5 l6 l7 l8 hq10 hr10
              have hE := Lib.hid (HPP d1 d2 d3 d4 d5 d6 d7 d8 e1 e2 e3 e4 e5 e6 e7 e8)
              have hcl : Hid (∀ g W, Blk W g 76 (edgCells t).toArray → W.cell? ⟨g, 0, none⟩ = some (.int .i64 t.frm) ∧ W.cell? ⟨g, 1, none⟩ = some (.int .i64 t.to) ∧ W.cell? ⟨g, 2, none⟩ = some (.int .i64 t.prot) ∧ Reads W 1 (some ⟨g, 19, none⟩) 4 (iv t.mp) ∧ Reads W 1 (some ⟨g, 3, none⟩) 16 (iv t.offs)) := fun g W hW => edg_blk hlo hlp hW
              clear HPP hlo hlp
              generalize edgCells t = tc at *
              go_wp2_with (first
                | (refine wpList_load_agg rfl 76 (.tmp 99) rfl rfl (cs := tc) (by rw [HL.out]; exact agg_edge) hce ?_)
                | (refine stop_store 76 (.tmp 12) (.tmp 100) rfl ?_))
              constructor
              refine wpList_store_all rfl 76 (.tmp 12) (.tmp 100) rfl rfl rfl (vs := tc) (by rw [HL.out]; exact agg_edge.2) (Blk.new _ _ _) hone (by rw [HL.out]; rfl) ?_
              intro w2 hb2 hk2
              have kr2 : Keep [] wr w2 := ((Keep.refl [] wr).alloc _).trans hk2 (fun y hy h => by simp at hy h; omega)
              have HKA := Lib.hid (HKW.out.then kr2)
              have HBA := Lib.hid (HBI.out.keep0 kr2)
              have HIF : Hid (∀ w', Keep [] w2 w' → w'.cell? ⟨wr.heap.size, 0, none⟩ = some (.int .i64 t.frm) ∧ w'.cell? ⟨wr.heap.size, 1, none⟩ = some (.int .i64 t.to) ∧ w'.cell? ⟨wr.heap.size, 2, none⟩ = some (.int .i64 t.prot) ∧ Reads w' 1 (some ⟨wr.heap.size, 19, none⟩) 4 (iv t.mp) ∧ Reads w' 1 (some ⟨wr.heap.size, 3, none⟩) 16 (iv t.offs)) := fun w' k => hcl.out _ _ (hb2.keep0 k)
              clear hb2 hk2 kr2 hce hcl hbi c0 c1 c2 c3
              generalize wr.heap.size = g at *
              go_wp2
              have hF := HIF.out
              refine wp_region_flow (Keep [] w2) rfl (by kernel_rfl) (Keep.refl _ _).drew ?_
              repeat (refine fl_val (v := ?_) (by rfl) ?_ ?_; rotate_left; (intro w' hS; obtain ⟨f1,f2,f3,_⟩ := hF w' hS; go_simp; with_reducible rfl); simp only [Act.put, List.setIfInBounds_toArray, List.set_cons_zero, List.set_cons_succ])
              refine fl_call (f := 38) (v := strOf dp) (by rfl) rfl (by simp only [List.map_toArray, List.map_cons, List.map_nil]; rfl) Try.func38 (by kernel_rfl) (by kernel_rfl) (fun w' hS => (HT1 w').out.mono fun e w'' hh => ⟨hh.1, hS.then hh.2⟩) ?_; simp only [Act.put, List.setIfInBounds_toArray, List.set_cons_zero, List.set_cons_succ]
              (refine fl_val (by rfl) (fun w' _ => exec_is e1 rfl rfl (by (try simp only [List.length_cons, List.length_nil]); omega) w') ?_; simp only [Act.put, List.setIfInBounds_toArray, List.set_cons_zero, List.set_cons_succ])
              (refine fl_val (by rfl) (fun w' _ => exec_is e2 rfl rfl (by (try simp only [List.length_cons, List.length_nil]); omega) w') ?_; simp only [Act.put, List.setIfInBounds_toArray, List.set_cons_zero, List.set_cons_succ])
              repeat (refine fl_val (v := ?_) (by rfl) ?_ ?_; rotate_left; (intro w' hS; obtain ⟨f1,f2,f3,_⟩ := hF w' hS; go_simp; with_reducible rfl); simp only [Act.put, List.setIfInBounds_toArray, List.set_cons_zero, List.set_cons_succ])
              refine fl_call (f := 38) (v := strOf dd) (by rfl) rfl (by simp only [List.map_toArray, List.map_cons, List.map_nil]; rfl) Try.func38 (by kernel_rfl) (by kernel_rfl) (fun w' hS => (HT2 w').out.mono fun e w'' hh => ⟨hh.1, hS.then hh.2⟩) ?_; simp only [Act.put, List.setIfInBounds_toArray, List.set_cons_zero, List.set_cons_succ]
              (refine fl_val (by rfl) (fun w' _ => exec_is e3 rfl rfl (by (try simp only [List.length_cons, List.length_nil]); omega) w') ?_; simp only [Act.put, List.setIfInBounds_toArray, List.set_cons_zero, List.set_cons_succ])
              (refine fl_val (by rfl) (fun w' _ => exec_is e4 rfl rfl (by (try simp only [List.length_cons, List.length_nil]); omega) w') ?_; simp only [Act.put, List.setIfInBounds_toArray, List.set_cons_zero, List.set_cons_succ])
              repeat (refine fl_val (v := ?_) (by rfl) ?_ ?_; rotate_left; (intro w' hS; obtain ⟨f1,f2,f3,_⟩ := hF w' hS; go_simp; with_reducible rfl); simp only [Act.put, List.setIfInBounds_toArray, List.set_cons_zero, List.set_cons_succ])
              refine fl_call (f := 41) (v := strOf dc) (by rfl) rfl (by simp only [List.map_toArray, List.map_cons, List.map_nil]; rfl) Try.func41 (by kernel_rfl) (by kernel_rfl) (fun w' hS => (HPR w').out.mono fun e w'' hh => ⟨hh.1, hS.then hh.2⟩) ?_; simp only [Act.put, List.setIfInBounds_toArray, List.set_cons_zero, List.set_cons_succ]
              (refine fl_val (by rfl) (fun w' _ => exec_is e5 rfl rfl (by (try simp only [List.length_cons, List.length_nil]); omega) w') ?_; simp only [Act.put, List.setIfInBounds_toArray, List.set_cons_zero, List.set_cons_succ])
              repeat (refine fl_val (v := ?_) (by rfl) ?_ ?_; rotate_left; (intro w' hS; obtain ⟨f1,f2,f3,_⟩ := hF w' hS; go_simp; with_reducible rfl); simp only [Act.put, List.setIfInBounds_toArray, List.set_cons_zero, List.set_cons_succ])
              refine fl_call (f := 39) (v := strOf dq) (by rfl) rfl (by simp only [List.map_toArray, List.map_cons, List.map_nil]; rfl) Try.func39 (by kernel_rfl) (by kernel_rfl) (fun w' hS => (HPA w' g (hF w' hS).2.2.2.1).out.mono fun e w'' hh => ⟨hh.1, hS.then hh.2⟩) ?_; simp only [Act.put, List.setIfInBounds_toArray, List.set_cons_zero, List.set_cons_succ]
              (refine fl_val (by rfl) (fun w' _ => exec_is e6 rfl rfl (by (try simp only [List.length_cons, List.length_nil]); omega) w') ?_; simp only [Act.put, List.setIfInBounds_toArray, List.set_cons_zero, List.set_cons_succ])
              repeat (refine fl_val (v := ?_) (by rfl) ?_ ?_; rotate_left; (intro w' hS; obtain ⟨f1,f2,f3,_⟩ := hF w' hS; go_simp; with_reducible rfl); simp only [Act.put, List.setIfInBounds_toArray, List.set_cons_zero, List.set_cons_succ])
              refine fl_call (f := 39) (v := strOf dx) (by rfl) rfl (by simp only [List.map_toArray, List.map_cons, List.map_nil]; rfl) Try.func39 (by kernel_rfl) (by kernel_rfl) (fun w' hS => (HPB w' g (hF w' hS).2.2.2.2).out.mono fun e w'' hh => ⟨hh.1, hS.then hh.2⟩) ?_; simp only [Act.put, List.setIfInBounds_toArray, List.set_cons_zero, List.set_cons_succ]
              (refine fl_val (by rfl) (fun w' _ => exec_is e7 rfl rfl (by (try simp only [List.length_cons, List.length_nil]); omega) w') ?_; simp only [Act.put, List.setIfInBounds_toArray, List.set_cons_zero, List.set_cons_succ])
              (refine fl_val (by rfl) (fun w' _ => exec_is e8 rfl rfl (by (try simp only [List.length_cons, List.length_nil]); omega) w') ?_; simp only [Act.put, List.setIfInBounds_toArray, List.set_cons_zero, List.set_cons_succ])
              (refine fl_val (by rfl) (fun w' _ => exec_is e9 rfl rfl (by (try simp only [List.length_cons, List.length_nil]); omega) w') ?_; simp only [Act.put, List.setIfInBounds_toArray, List.set_cons_zero, List.set_cons_succ])
              repeat (refine fl_val (v := ?_) (by rfl) ?_ ?_; rotate_left; (intro w' hS; obtain ⟨f1,f2,f3,_⟩ := hF w' hS; go_simp; with_reducible rfl); simp only [Act.put, List.setIfInBounds_toArray, List.set_cons_zero, List.set_cons_succ])
              refine fl_nil ?_
              intro w4 hS
              have HK4 := Lib.hid (HKA.out.then hS)
              have HB4 := Lib.hid (HBA.out.keep0 hS)
              have hE8 : Hid (d9 = r4 ++ (x.edges.take (k + 1)).flatMap (edgeT pairsT)) := by show _ = _; rw [hst.out, e9.out, hE.out]
              clear hF hS
              go_wp2
              (try rw [← HA.out])
              go_roundw
              case rel => exact ⟨k + 1, by omega, by go_num, by rw [hE8.out], HB4.out, HK4.out⟩
              case measure => simp [intOf]; omega
            · have hall : x.edges.take k = x.edges := List.take_of_length_le (by omega)
              rw [hall]
              have HPE : Hid (printT pairsT x = r4 ++ x.edges.flatMap (edgeT pairsT)) := by show _ = _; rw [HPT.out, HR4.out, HR3.out, er2.out, er1.out]; simp
              have HRet := Lib.hid hkw
              clear hall hkw hbi
              go_wp2
              go_ret
              exact ⟨by rw [HPE.out]; rfl, HRet.out⟩
end Go.Proofs.Ytoepkhkaifgddaa
