/- The document's line of an image: the arm of 'res', and lines that may not stand there; walked. Condition: short pieces. -/
import Derived.Test.YtoepkhkaifgddaaSrcRi
namespace Go.Proofs.Ytoepkhkaifgddaa
open Go.RowKit

theorem res_num (ps : List ByteArray) : resP ps = match numL (ps.drop 1) with | some [n] => some n | _ => none := by
  unfold resP
  match ps with
  | [] => rfl
  | [p0] => rfl
  | [p0, p1] =>
    rw [if_pos (by simp)]
    show numP [p0, p1] 1 = match numL [p1] with | some [n] => some n | _ => none
    have n1 : numP [p0, p1] 1 = if (readP (bytesOf p1)).2 = 0 then some (readP (bytesOf p1)).1 else none := rfl
    rw [n1, numL_cons]
    by_cases h : (readP (bytesOf p1)).2 = 0
    · rw [if_pos h, if_pos h]; rfl
    · rw [if_neg h, if_neg h]
  | p0 :: p1 :: p2 :: r =>
    rw [if_neg (by simp)]
    show none = match numL (p1 :: p2 :: r) with | some [n] => some n | _ => none
    cases hn : numL (p1 :: p2 :: r) with
    | none => rfl
    | some l =>
      have := numL_len hn
      match l, this with
      | a :: b :: t, _ => rfl
/-- x as it was, and no. -/
theorem rline_no {w wz : World} {b : Nat} {x : Img} {vt vm ve : Value} {ms : List (Mdd × Option Addr × Nat)} {r : Option Img} (hO : OwnImg w b x vt vm ve ms) (k : Keep [] w wz) (hr : r = none) (n : Int) :
    RLine w b r (.returned (.tuple #[.agg [Value.int .i64 n, vt, vm, ve].toArray, .bool false])) wz :=
  ⟨_, false, rfl, rfl, hO.one n, by rw [hr]; rfl, Chg.of0 k, fun y hy => by rw [hr] at hy; cases hy⟩


set_option maxRecDepth 100000 in
set_option maxHeartbeats 2000000 in
theorem rline_none (b bp op cc : Nat) (x : Img) (vt vm ve : Value) (ms : List (Mdd × Option Addr × Nat)) (ps : List ByteArray) (w : World) (hO : OwnImg w b x vt vm ve ms) (h : Reads w 1 (some ⟨bp, op, none⟩) ps.length (strs ps)) (hl : ps.length ≤ 1000001) (hcap : ps.length ≤ cc) (hz : ∀ p ∈ ps, p.size ≤ 1000000) (h0 : 0 < ps.length) (hw : bytesOf ps[0] ≠ wRes ∧ bytesOf ps[0] ≠ wTask ∧ bytesOf ps[0] ≠ wMode ∧ bytesOf ps[0] ≠ wEdge ∧ bytesOf ps[0] ≠ wQueue) :
    Calls Try.prog 36 #[.agg #[.int .i64 x.res, vt, vm, ve], .slice (some ⟨bp, op, none⟩) ps.length cc, .bool false] w (RLine w b (lineP x ps false)) := by
  have hN : Hid (lineP x ps false = none) := by
    show _ = _
    unfold lineP
    rw [show ps.getD 0 { data := #[] } = ps[0] by simp [List.getD, h0]]
    dsimp only
    rw [if_neg (by simp [hw.1]), if_neg hw.1, if_neg hw.2.1, if_neg hw.2.2.1, if_neg hw.2.2.2.2, if_neg hw.2.2.2.1]
  have hpc : ∀ W, Keep [] w W → W.cell? ⟨bp, op, none⟩ = some (strOf (bytesOf ps[0])) := fun W hk => by
    obtain ⟨bp', op', e, hb', hc⟩ := (h.keep0 hk).addr h0
    cases e
    rw [strOf_bytes]
    exact hc 0 (.string ps[0]) (by simp [strs, h0])
  have hp0 : (0 : Int) < (ps.length : Int) := by omega
  have HO := Lib.hid hO
  have hone := hO.one x.res
  have KA : Keep [] w (w.alloc (.cells #[.int .i64 x.res, vt, vm, ve] 26)) := (Keep.refl [] w).alloc _
  have KB := KA.alloc (.cells #[.int .i64 0, .slice none 0 0, .slice none 0 0, .slice none 0 0] 26)
  have hp2 := hpc _ KB
  have hB3 := ((Blk.new w 26 #[.int .i64 x.res, vt, vm, ve]).alloc (.cells #[.int .i64 0, .slice none 0 0, .slice none 0 0, .slice none 0 0] 26))
  have hB6 := (Blk.new (w.alloc (.cells #[.int .i64 x.res, vt, vm, ve] 26)) 26 #[.int .i64 0, .slice none 0 0, .slice none 0 0, .slice none 0 0])
  have h36 : (w.alloc (.cells #[.int .i64 x.res, vt, vm, ve] 26)).heap.size = w.heap.size + 1 := by simp only [World.alloc, Array.size_push]
  rw [h36] at hB6
  generalize bytesOf ps[0] = pb at *
  have hr0 : ∀ W, (binOp .eql 9 (strOf pb) (.string { data := #[114, 101, 115] })).run Try.prog W = .ok (.bool (decide (pb = wRes))) W := fun W => run_eql_str (P := Try.prog) 9 pb wRes W
  have hs0 : ∀ y z W, (eqGuard BinOp.eql 9 y z (strOf pb) (.string { data := #[114, 101, 115] })).run Try.prog W = .ok () W := fun _ _ _ => rfl
  rw [decide_eq_false hw.1] at hr0
  have hr1 : ∀ W, (binOp .eql 9 (strOf pb) (.string { data := #[116, 97, 115, 107] })).run Try.prog W = .ok (.bool (decide (pb = wTask))) W := fun W => run_eql_str (P := Try.prog) 9 pb wTask W
  have hs1 : ∀ y z W, (eqGuard BinOp.eql 9 y z (strOf pb) (.string { data := #[116, 97, 115, 107] })).run Try.prog W = .ok () W := fun _ _ _ => rfl
  rw [decide_eq_false hw.2.1] at hr1
  have hr2 : ∀ W, (binOp .eql 9 (strOf pb) (.string { data := #[109, 111, 100, 101] })).run Try.prog W = .ok (.bool (decide (pb = wMode))) W := fun W => run_eql_str (P := Try.prog) 9 pb wMode W
  have hs2 : ∀ y z W, (eqGuard BinOp.eql 9 y z (strOf pb) (.string { data := #[109, 111, 100, 101] })).run Try.prog W = .ok () W := fun _ _ _ => rfl
  rw [decide_eq_false hw.2.2.1] at hr2
  have hr3 : ∀ W, (binOp .eql 9 (strOf pb) (.string { data := #[101, 100, 103, 101] })).run Try.prog W = .ok (.bool (decide (pb = wEdge))) W := fun W => run_eql_str (P := Try.prog) 9 pb wEdge W
  have hs3 : ∀ y z W, (eqGuard BinOp.eql 9 y z (strOf pb) (.string { data := #[101, 100, 103, 101] })).run Try.prog W = .ok () W := fun _ _ _ => rfl
  rw [decide_eq_false hw.2.2.2.1] at hr3
  have hr4 : ∀ W, (binOp .eql 9 (strOf pb) (.string { data := #[113, 117, 101, 117, 101] })).run Try.prog W = .ok (.bool (decide (pb = wQueue))) W := fun W => run_eql_str (P := Try.prog) 9 pb wQueue W
  have hs4 : ∀ y z W, (eqGuard BinOp.eql 9 y z (strOf pb) (.string { data := #[113, 117, 101, 117, 101] })).run Try.prog W = .ok () W := fun _ _ _ => rfl
  rw [decide_eq_false hw.2.2.2.2] at hr4
  clear hw h hz hO h36 hpc
  go_enter Try.func36, Try.ntmps36
  go_wp2_with (first
    | (refine wpList_load_agg rfl 26 (.tmp 3) rfl rfl (cs := [.int .i64 x.res, vt, vm, ve]) agg_image hB3.cellsAt ?_)
    | (refine stop_store 26 (.tmp 6) (.tmp 166) rfl ?_))
  constructor
  refine wpList_store_all rfl 26 (.tmp 6) (.tmp 166) rfl rfl rfl (vs := [.int .i64 x.res, vt, vm, ve]) agg_image.2 hB6 hone rfl ?_
  intro wz dz kz
  have krz := KB.trans kz (fun y hy h => by simp at hy; omega)
  go_wp2
  refine bodyPost_ret (results_cell_tmp rfl _ rfl rfl dz agg_image) rfl ?_
  exact rline_no HO.out krz hN.out _


set_option maxRecDepth 100000 in
set_option maxHeartbeats 4000000 in
theorem rline_resA (b bp op cc : Nat) (x : Img) (vt vm ve : Value) (ms : List (Mdd × Option Addr × Nat)) (ps : List ByteArray) (w : World) (hO : OwnImg w b x vt vm ve ms) (h : Reads w 1 (some ⟨bp, op, none⟩) ps.length (strs ps)) (hl : ps.length ≤ 1000001) (hcap : ps.length ≤ cc) (hz : ∀ p ∈ ps, p.size ≤ 1000000) (h0 : 0 < ps.length) (hw : bytesOf ps[0] = wRes) :
    Calls Try.prog 36 #[.agg #[.int .i64 x.res, vt, vm, ve], .slice (some ⟨bp, op, none⟩) ps.length cc, .bool false] w (RLine w b (lineP x ps false)) := by
  have hN : Hid (lineP x ps false = none) := by
    show _ = _
    unfold lineP
    rw [show ps.getD 0 { data := #[] } = ps[0] by simp [List.getD, h0]]
    dsimp only
    rw [if_pos (by simp [hw])]
  have hpc : ∀ W, Keep [] w W → W.cell? ⟨bp, op, none⟩ = some (strOf (bytesOf ps[0])) := fun W hk => by
    obtain ⟨bp', op', e, hb', hc⟩ := (h.keep0 hk).addr h0
    cases e
    rw [strOf_bytes]
    exact hc 0 (.string ps[0]) (by simp [strs, h0])
  have hp0 : (0 : Int) < (ps.length : Int) := by omega
  have HO := Lib.hid hO
  have hone := hO.one x.res
  have KA : Keep [] w (w.alloc (.cells #[.int .i64 x.res, vt, vm, ve] 26)) := (Keep.refl [] w).alloc _
  have KB := KA.alloc (.cells #[.int .i64 0, .slice none 0 0, .slice none 0 0, .slice none 0 0] 26)
  have hp2 := hpc _ KB
  have hB3 := ((Blk.new w 26 #[.int .i64 x.res, vt, vm, ve]).alloc (.cells #[.int .i64 0, .slice none 0 0, .slice none 0 0, .slice none 0 0] 26))
  have hB6 := (Blk.new (w.alloc (.cells #[.int .i64 x.res, vt, vm, ve] 26)) 26 #[.int .i64 0, .slice none 0 0, .slice none 0 0, .slice none 0 0])
  have h36 : (w.alloc (.cells #[.int .i64 x.res, vt, vm, ve] 26)).heap.size = w.heap.size + 1 := by simp only [World.alloc, Array.size_push]
  rw [h36] at hB6
  have HNM := fun W (hk : Keep [] w W) A1 c1 hA => Lib.hid (rnumbers_any A1 c1 (ps.drop 1) W (reads_drop1 (h.keep0 hk) hA h0) (by simp; omega) (fun p hp => hz p (List.mem_of_mem_drop hp)))
  have hl1 : (ps.drop 1).length = ps.length - 1 := by simp
  rw [hl1] at HNM
  have p1 : (1 : Int) ≤ (ps.length : Int) := by omega
  have p2 : (ps.length : Int) ≤ (cc : Int) := by omega
  have p3 : (1 : Int) ≤ (cc : Int) := by omega
  have HKB := Lib.hid KB
  have HB30 := Lib.hid hB3
  have HB60 := Lib.hid hB6
  have HPC := Lib.hid hpc
  have HL1 : Hid (ps.length ≤ 1000001) := hl
  have hcc : cc = 1 ∨ cc ≠ 1 := by omega
  generalize bytesOf ps[0] = pb at *
  have hr0 : ∀ W, (binOp .eql 9 (strOf pb) (.string { data := #[114, 101, 115] })).run Try.prog W = .ok (.bool (decide (pb = wRes))) W := fun W => run_eql_str (P := Try.prog) 9 pb wRes W
  have hs0 : ∀ y z W, (eqGuard BinOp.eql 9 y z (strOf pb) (.string { data := #[114, 101, 115] })).run Try.prog W = .ok () W := fun _ _ _ => rfl
  have hr1 : ∀ W, (binOp .neq 9 (strOf pb) (.string { data := #[114, 101, 115] })).run Try.prog W = .ok (.bool (!decide (pb = wRes))) W := fun W => run_neq_str (P := Try.prog) 9 pb wRes W
  have hs1 : ∀ y z W, (eqGuard BinOp.neq 9 y z (strOf pb) (.string { data := #[114, 101, 115] })).run Try.prog W = .ok () W := fun _ _ _ => rfl
  rw [decide_eq_true hw] at hr0 hr1
  clear h hz hO h36 hpc hB3 hB6 KA KB hl hl1 hw
  go_enter Try.func36, Try.ntmps36
  rcases hcc with hcc | hcc
  case' inl =>
    have hc0 : cc - 1 = 0 := by omega
    have HLC : Hid (ps.length ≤ 1) := by show _ ≤ _; omega
    clear hcc
    go_wp2_with fail
    refine (HNM _ HKB.out (some ⟨bp, op, none⟩) _ (.inl ⟨rfl, HLC.out⟩)).out.mono ?_
    have hcc : cc ≠ 50000000 := by omega
    clear hc0
  case' inr =>
    go_wp2_with fail
    refine (HNM _ HKB.out (some ⟨bp, op + 1, none⟩) _ (.inr rfl)).out.mono ?_
  all_goals
    rintro e w1 hp
    obtain ⟨V, L, ok, rfl, hrow, k1, hnl, hnil⟩ := num_both hp
    have K1 := HKB.out.then k1
    have hB3 := HB30.out.keep0 k1
    have hB6 := HB60.out.keep0 k1
    have hp1 := HPC.out _ K1
    have HROW := Lib.hid hrow
    have HNL := Lib.hid hnl
    clear hp HNM k1 hrow hnl

    go_wp2_with (first
      | (refine wpList_load_agg rfl 26 (.tmp 3) rfl rfl (cs := [.int .i64 x.res, vt, vm, ve]) agg_image hB3.cellsAt ?_)
      | (refine stop_store 26 (.tmp 6) (.tmp 50) rfl ?_))
    constructor
    refine wpList_store_all rfl 26 (.tmp 6) (.tmp 50) rfl rfl rfl (vs := [.int .i64 x.res, vt, vm, ve]) agg_image.2 hB6 hone rfl ?_
    intro wz dz kz
    have krz := K1.trans kz (fun y hy h => by simp at hy; omega)
    go_wp2
    refine bodyPost_ret (results_cell_tmp rfl _ rfl rfl dz agg_image) rfl ?_
    exact rline_no HO.out krz hN.out _


set_option maxRecDepth 100000 in
set_option maxHeartbeats 4000000 in
theorem rline_resB (b bp op cc : Nat) (x : Img) (vt vm ve : Value) (ms : List (Mdd × Option Addr × Nat)) (ps : List ByteArray) (w : World) (hO : OwnImg w b x vt vm ve ms) (h : Reads w 1 (some ⟨bp, op, none⟩) ps.length (strs ps)) (hl : ps.length ≤ 1000001) (hcap : ps.length ≤ cc) (hz : ∀ p ∈ ps, p.size ≤ 1000000) (h0 : 0 < ps.length) (hw : ¬ bytesOf ps[0] = wRes) :
    Calls Try.prog 36 #[.agg #[.int .i64 x.res, vt, vm, ve], .slice (some ⟨bp, op, none⟩) ps.length cc, .bool true] w (RLine w b (lineP x ps true)) := by
  have hN : Hid (lineP x ps true = none) := by
    show _ = _
    unfold lineP
    rw [show ps.getD 0 { data := #[] } = ps[0] by simp [List.getD, h0]]
    dsimp only
    rw [if_pos (by simp [hw])]
  have hpc : ∀ W, Keep [] w W → W.cell? ⟨bp, op, none⟩ = some (strOf (bytesOf ps[0])) := fun W hk => by
    obtain ⟨bp', op', e, hb', hc⟩ := (h.keep0 hk).addr h0
    cases e
    rw [strOf_bytes]
    exact hc 0 (.string ps[0]) (by simp [strs, h0])
  have hp0 : (0 : Int) < (ps.length : Int) := by omega
  have HO := Lib.hid hO
  have hone := hO.one x.res
  have KA : Keep [] w (w.alloc (.cells #[.int .i64 x.res, vt, vm, ve] 26)) := (Keep.refl [] w).alloc _
  have KB := KA.alloc (.cells #[.int .i64 0, .slice none 0 0, .slice none 0 0, .slice none 0 0] 26)
  have hp2 := hpc _ KB
  have hB3 := ((Blk.new w 26 #[.int .i64 x.res, vt, vm, ve]).alloc (.cells #[.int .i64 0, .slice none 0 0, .slice none 0 0, .slice none 0 0] 26))
  have hB6 := (Blk.new (w.alloc (.cells #[.int .i64 x.res, vt, vm, ve] 26)) 26 #[.int .i64 0, .slice none 0 0, .slice none 0 0, .slice none 0 0])
  have h36 : (w.alloc (.cells #[.int .i64 x.res, vt, vm, ve] 26)).heap.size = w.heap.size + 1 := by simp only [World.alloc, Array.size_push]
  rw [h36] at hB6
  have HNM := fun W (hk : Keep [] w W) A1 c1 hA => Lib.hid (rnumbers_any A1 c1 (ps.drop 1) W (reads_drop1 (h.keep0 hk) hA h0) (by simp; omega) (fun p hp => hz p (List.mem_of_mem_drop hp)))
  have hl1 : (ps.drop 1).length = ps.length - 1 := by simp
  rw [hl1] at HNM
  have p1 : (1 : Int) ≤ (ps.length : Int) := by omega
  have p2 : (ps.length : Int) ≤ (cc : Int) := by omega
  have p3 : (1 : Int) ≤ (cc : Int) := by omega
  have HKB := Lib.hid KB
  have HB30 := Lib.hid hB3
  have HB60 := Lib.hid hB6
  have HPC := Lib.hid hpc
  have HL1 : Hid (ps.length ≤ 1000001) := hl
  have hcc : cc = 1 ∨ cc ≠ 1 := by omega
  generalize bytesOf ps[0] = pb at *
  have hr0 : ∀ W, (binOp .eql 9 (strOf pb) (.string { data := #[114, 101, 115] })).run Try.prog W = .ok (.bool (decide (pb = wRes))) W := fun W => run_eql_str (P := Try.prog) 9 pb wRes W
  have hs0 : ∀ y z W, (eqGuard BinOp.eql 9 y z (strOf pb) (.string { data := #[114, 101, 115] })).run Try.prog W = .ok () W := fun _ _ _ => rfl
  have hr1 : ∀ W, (binOp .neq 9 (strOf pb) (.string { data := #[114, 101, 115] })).run Try.prog W = .ok (.bool (!decide (pb = wRes))) W := fun W => run_neq_str (P := Try.prog) 9 pb wRes W
  have hs1 : ∀ y z W, (eqGuard BinOp.neq 9 y z (strOf pb) (.string { data := #[114, 101, 115] })).run Try.prog W = .ok () W := fun _ _ _ => rfl
  rw [decide_eq_false hw] at hr0 hr1
  clear h hz hO h36 hpc hB3 hB6 KA KB hl hl1 hw
  go_enter Try.func36, Try.ntmps36
  rcases hcc with hcc | hcc
  case' inl =>
    have hc0 : cc - 1 = 0 := by omega
    have HLC : Hid (ps.length ≤ 1) := by show _ ≤ _; omega
    clear hcc
    go_wp2_with fail
    refine (HNM _ HKB.out (some ⟨bp, op, none⟩) _ (.inl ⟨rfl, HLC.out⟩)).out.mono ?_
    have hcc : cc ≠ 50000000 := by omega
    clear hc0
  case' inr =>
    go_wp2_with fail
    refine (HNM _ HKB.out (some ⟨bp, op + 1, none⟩) _ (.inr rfl)).out.mono ?_
  all_goals
    rintro e w1 hp
    obtain ⟨V, L, ok, rfl, hrow, k1, hnl, hnil⟩ := num_both hp
    have K1 := HKB.out.then k1
    have hB3 := HB30.out.keep0 k1
    have hB6 := HB60.out.keep0 k1
    have hp1 := HPC.out _ K1
    have HROW := Lib.hid hrow
    have HNL := Lib.hid hnl
    clear hp HNM k1 hrow hnl

    go_wp2_with (first
      | (refine wpList_load_agg rfl 26 (.tmp 3) rfl rfl (cs := [.int .i64 x.res, vt, vm, ve]) agg_image hB3.cellsAt ?_)
      | (refine stop_store 26 (.tmp 6) (.tmp 50) rfl ?_))
    constructor
    refine wpList_store_all rfl 26 (.tmp 6) (.tmp 50) rfl rfl rfl (vs := [.int .i64 x.res, vt, vm, ve]) agg_image.2 hB6 hone rfl ?_
    intro wz dz kz
    have krz := K1.trans kz (fun y hy h => by simp at hy; omega)
    go_wp2
    refine bodyPost_ret (results_cell_tmp rfl _ rfl rfl dz agg_image) rfl ?_
    exact rline_no HO.out krz hN.out _


set_option maxRecDepth 100000 in
set_option maxHeartbeats 4000000 in
theorem rline_resC (b bp op cc : Nat) (x : Img) (vt vm ve : Value) (ms : List (Mdd × Option Addr × Nat)) (ps : List ByteArray) (w : World) (hO : OwnImg w b x vt vm ve ms) (h : Reads w 1 (some ⟨bp, op, none⟩) ps.length (strs ps)) (hl : ps.length ≤ 1000001) (hcap : ps.length ≤ cc) (hz : ∀ p ∈ ps, p.size ≤ 1000000) (h0 : 0 < ps.length) (hw : bytesOf ps[0] = wRes) :
    Calls Try.prog 36 #[.agg #[.int .i64 x.res, vt, vm, ve], .slice (some ⟨bp, op, none⟩) ps.length cc, .bool true] w (RLine w b (lineP x ps true)) := by
  have hN : Hid (lineP x ps true = (match numL (ps.drop 1) with | some [n] => some n | _ => none).map fun n => { x with res := n }) := by
    show _ = _
    unfold lineP
    rw [show ps.getD 0 { data := #[] } = ps[0] by simp [List.getD, h0]]
    dsimp only
    rw [if_neg (by simp [hw]), if_pos hw, res_num]
  have hpc : ∀ W, Keep [] w W → W.cell? ⟨bp, op, none⟩ = some (strOf (bytesOf ps[0])) := fun W hk => by
    obtain ⟨bp', op', e, hb', hc⟩ := (h.keep0 hk).addr h0
    cases e
    rw [strOf_bytes]
    exact hc 0 (.string ps[0]) (by simp [strs, h0])
  have hp0 : (0 : Int) < (ps.length : Int) := by omega
  have HO := Lib.hid hO
  have hone := hO.one x.res
  have KA : Keep [] w (w.alloc (.cells #[.int .i64 x.res, vt, vm, ve] 26)) := (Keep.refl [] w).alloc _
  have KB := KA.alloc (.cells #[.int .i64 0, .slice none 0 0, .slice none 0 0, .slice none 0 0] 26)
  have hp2 := hpc _ KB
  have hB3 := ((Blk.new w 26 #[.int .i64 x.res, vt, vm, ve]).alloc (.cells #[.int .i64 0, .slice none 0 0, .slice none 0 0, .slice none 0 0] 26))
  have hB6 := (Blk.new (w.alloc (.cells #[.int .i64 x.res, vt, vm, ve] 26)) 26 #[.int .i64 0, .slice none 0 0, .slice none 0 0, .slice none 0 0])
  have h36 : (w.alloc (.cells #[.int .i64 x.res, vt, vm, ve] 26)).heap.size = w.heap.size + 1 := by simp only [World.alloc, Array.size_push]
  rw [h36] at hB6
  have HNM := fun W (hk : Keep [] w W) A1 c1 hA => Lib.hid (rnumbers_any A1 c1 (ps.drop 1) W (reads_drop1 (h.keep0 hk) hA h0) (by simp; omega) (fun p hp => hz p (List.mem_of_mem_drop hp)))
  have hl1 : (ps.drop 1).length = ps.length - 1 := by simp
  rw [hl1] at HNM
  have p1 : (1 : Int) ≤ (ps.length : Int) := by omega
  have p2 : (ps.length : Int) ≤ (cc : Int) := by omega
  have p3 : (1 : Int) ≤ (cc : Int) := by omega
  have HKB := Lib.hid KB
  have HB30 := Lib.hid hB3
  have HB60 := Lib.hid hB6
  have HPC := Lib.hid hpc
  have HL1 : Hid (ps.length ≤ 1000001) := hl
  have hcc : cc = 1 ∨ cc ≠ 1 := by omega
  generalize bytesOf ps[0] = pb at *
  have hr0 : ∀ W, (binOp .eql 9 (strOf pb) (.string { data := #[114, 101, 115] })).run Try.prog W = .ok (.bool (decide (pb = wRes))) W := fun W => run_eql_str (P := Try.prog) 9 pb wRes W
  have hs0 : ∀ y z W, (eqGuard BinOp.eql 9 y z (strOf pb) (.string { data := #[114, 101, 115] })).run Try.prog W = .ok () W := fun _ _ _ => rfl
  have hr1 : ∀ W, (binOp .neq 9 (strOf pb) (.string { data := #[114, 101, 115] })).run Try.prog W = .ok (.bool (!decide (pb = wRes))) W := fun W => run_neq_str (P := Try.prog) 9 pb wRes W
  have hs1 : ∀ y z W, (eqGuard BinOp.neq 9 y z (strOf pb) (.string { data := #[114, 101, 115] })).run Try.prog W = .ok () W := fun _ _ _ => rfl
  rw [decide_eq_true hw] at hr0 hr1
  clear h hz hO h36 hpc hB3 hB6 KA KB hl hl1 hw
  go_enter Try.func36, Try.ntmps36
  rcases hcc with hcc | hcc
  case' inl =>
    have hc0 : cc - 1 = 0 := by omega
    have HLC : Hid (ps.length ≤ 1) := by show _ ≤ _; omega
    clear hcc
    go_wp2_with fail
    refine (HNM _ HKB.out (some ⟨bp, op, none⟩) _ (.inl ⟨rfl, HLC.out⟩)).out.mono ?_
    have hcc : cc ≠ 50000000 := by omega
    clear hc0
  case' inr =>
    go_wp2_with fail
    refine (HNM _ HKB.out (some ⟨bp, op + 1, none⟩) _ (.inr rfl)).out.mono ?_
  all_goals
    rintro e w1 hp
    obtain ⟨V, L, ok, rfl, hrow, k1, hnl, hnil⟩ := num_both hp
    have K1 := HKB.out.then k1
    have hB3 := HB30.out.keep0 k1
    have hB6 := HB60.out.keep0 k1
    have hp1 := HPC.out _ K1
    have HROW := Lib.hid hrow
    have HNL := Lib.hid hnl
    clear hp HNM k1 hrow hnl

    rw [HNL.out] at hN
    cases ok
    · have hN0 : Hid (lineP x ps true = none) := hN.out
      go_wp2_with (first
        | (refine wpList_load_agg rfl 26 (.tmp 3) rfl rfl (cs := [.int .i64 x.res, vt, vm, ve]) agg_image hB3.cellsAt ?_)
        | (refine stop_store 26 (.tmp 6) (.tmp 50) rfl ?_))
      constructor
      refine wpList_store_all rfl 26 (.tmp 6) (.tmp 50) rfl rfl rfl (vs := [.int .i64 x.res, vt, vm, ve]) agg_image.2 hB6 hone rfl ?_
      intro wz dz kz
      have krz := K1.trans kz (fun y hy h => by simp at hy; omega)
      go_wp2
      refine bodyPost_ret (results_cell_tmp rfl _ rfl rfl dz agg_image) rfl ?_
      exact rline_no HO.out krz hN0.out _
    · rw [if_pos rfl] at hN
      by_cases h1 : L.length = 1
      · obtain ⟨n, rfl⟩ : ∃ n, L = [n] := by
          match L, h1 with
          | [n], _ => exact ⟨n, rfl⟩
        have hN1 : Hid (lineP x ps true = some { x with res := n }) := hN.out
        obtain ⟨A', c', rfl⟩ := own_shape HROW.out
        obtain ⟨b', o', rfl, _, hcc3⟩ := (Reads.of_own HROW.out).addr (by simp)
        have c0 := hcc3 0 (.int .i64 n) rfl
        simp only [Nat.add_zero] at c0
        have f3 := hB3.frozen 0
        have d3 := hB3.cell 0
        have HB3 := Lib.hid hB3
        have HB6 := Lib.hid hB6
        have HK1 := Lib.hid K1
        clear hcc3 hN h1 hB3 hB6 K1
        go_wp2_with (first
          | (refine wpList_load_agg rfl 26 (.tmp 3) rfl rfl (cs := [.int .i64 n, vt, vm, ve]) agg_image (HB3.out.set_ 0 _).cellsAt ?_)
          | (refine stop_store 26 (.tmp 6) (.tmp 55) rfl ?_))
        constructor
        have hone2 := HO.out.one n
        refine wpList_store_all rfl 26 (.tmp 6) (.tmp 55) rfl rfl rfl (vs := [.int .i64 n, vt, vm, ve]) agg_image.2 (HB6.out.far (by show w.heap.size + 1 ≠ w.heap.size; omega) _) hone2 rfl ?_
        intro wz dz kz
        have krz := (HK1.out.setCell (p := ⟨w.heap.size, 0, none⟩) (fun h => by dsimp only at h; omega) (.int .i64 n)).trans kz (fun y hy h => by simp at hy; omega)
        go_wp2
        refine bodyPost_ret (results_cell_tmp rfl _ rfl rfl dz agg_image) rfl ?_
        rw [hN1.out]
        refine ⟨_, true, rfl, rfl, HO.out.one n, rfl, Chg.of0 krz, fun y hy => ?_⟩
        cases hy
        exact ⟨_, _, _, _, rfl, (HO.out.res n).keep0 krz⟩
      · have hN0 : Hid (lineP x ps true = none) := by
          show _ = _
          rw [hN.out]
          match L, h1 with
          | [], _ => rfl
          | a :: b :: t, _ => rfl
        obtain ⟨A', c', rfl⟩ := own_shape HROW.out
        have hb1 : ((L.length : Int) != 1) = true := by rw [bne_iff_ne]; omega
        clear h1 hN
        go_wp2_with (first
          | (refine wpList_load_agg rfl 26 (.tmp 3) rfl rfl (cs := [.int .i64 x.res, vt, vm, ve]) agg_image hB3.cellsAt ?_)
          | (refine stop_store 26 (.tmp 6) (.tmp 50) rfl ?_))
        constructor
        refine wpList_store_all rfl 26 (.tmp 6) (.tmp 50) rfl rfl rfl (vs := [.int .i64 x.res, vt, vm, ve]) agg_image.2 hB6 hone rfl ?_
        intro wz dz kz
        have krz := K1.trans kz (fun y hy h => by simp at hy; omega)
        go_wp2
        refine bodyPost_ret (results_cell_tmp rfl _ rfl rfl dz agg_image) rfl ?_
        exact rline_no HO.out krz hN0.out _

end Go.Proofs.Ytoepkhkaifgddaa
