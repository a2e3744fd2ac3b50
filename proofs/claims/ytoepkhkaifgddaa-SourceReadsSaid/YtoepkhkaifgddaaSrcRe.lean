/- An edge of pieces, as the document reads it; walked. Condition: short pieces. -/
import Derived.Test.YtoepkhkaifgddaaSrcRm
namespace Go.Proofs.Ytoepkhkaifgddaa
open Go.RowKit

section
variable {P : Program} {ops : Array Oper} {Q : Exit → Act → World → Prop} {md : Region.Mode} {S : World → Prop} {p : Nat} {fuel : Nat} {listed : Array Bool} {a : Act} {w : World}
/-- One of two operations comes up. -/
theorem ap_two (i j : Nat) (hr : Region.ready md ops listed = [i, j]) (h : wpOp P ops Q i (fun a' w' => ((listed.setIfInBounds i true).getD p true = false → S w') ∧ wpAnyP P md ops Q p S fuel (listed.setIfInBounds i true) a' w') a w)
    (h' : wpOp P ops Q j (fun a' w' => ((listed.setIfInBounds j true).getD p true = false → S w') ∧ wpAnyP P md ops Q p S fuel (listed.setIfInBounds j true) a' w') a w) : wpAnyP P md ops Q p S (fuel + 1) listed a w :=
  ⟨fun h0 => (by rw [hr] at h0; cases h0), fun k hk => by
    rw [hr] at hk
    simp only [List.mem_cons, List.not_mem_nil, or_false] at hk
    rcases hk with rfl | rfl
    · exact h
    · exact h'⟩
end
theorem edge_nums {ps : List ByteArray} (h : 4 ≤ ps.length) : (numL ((ps.drop 1).take 2) = none → edgeP ps = none) ∧ ∀ l, numL ((ps.drop 1).take 2) = some l → ∃ a b, l = [a, b] ∧ edgeP ps = if wordP proW ps[3] ≠ 0 then (edgePairs (ps.drop 4) (List.replicate 4 0) (List.replicate 16 0)).map (fun mo => ⟨a, b, wordP proW ps[3], mo.2, mo.1⟩) else none := by
  match ps, h with
  | p0 :: p1 :: p2 :: p3 :: r, _ =>
    have e : ((p0 :: p1 :: p2 :: p3 :: r).drop 1).take 2 = [p1, p2] := rfl
    have n1 : numP (p0 :: p1 :: p2 :: p3 :: r) 1 = if (readP (bytesOf p1)).2 = 0 then some (readP (bytesOf p1)).1 else none := rfl
    have n2 : numP (p0 :: p1 :: p2 :: p3 :: r) 2 = if (readP (bytesOf p2)).2 = 0 then some (readP (bytesOf p2)).1 else none := rfl
    have hw : wordP proW ((p0 :: p1 :: p2 :: p3 :: r).getD 3 { data := #[] }) = wordP proW p3 := rfl
    have hw2 : wordP proW (p0 :: p1 :: p2 :: p3 :: r)[3] = wordP proW p3 := rfl
    rw [e, hw2]
    unfold numL edgeP
    rw [n1, n2, hw]
    by_cases h1 : (readP (bytesOf p1)).2 = 0
    · by_cases h2 : (readP (bytesOf p2)).2 = 0
      · rw [if_pos (by simp [h1, h2])]
        refine ⟨fun h => (by cases h), fun l hl => ?_⟩
        cases hl
        refine ⟨_, _, rfl, ?_⟩
        rw [if_pos h1, if_pos h2]
        simp only [Option.bind_some]
        by_cases h3 : wordP proW p3 ≠ 0
        · rw [if_pos ⟨by simp, h3⟩, if_pos h3]
        · rw [if_neg (fun hh => h3 hh.2), if_neg h3]
      · rw [if_neg (by simp [h1, h2])]
        exact ⟨fun _ => by rw [if_pos h1, if_neg h2]; rfl, fun l hl => by cases hl⟩
    · rw [if_neg (by simp [h1])]
      exact ⟨fun _ => by rw [if_neg h1]; rfl, fun l hl => by cases hl⟩
def zEdge : List Value := iv [0, 0, 0, 0, 0, 0, 0, 0, 0, 0, 0, 0, 0, 0, 0, 0, 0, 0, 0, 0, 0, 0, 0]
/-- What the document's edge answers. -/
def EdgePost (w : World) (r : Option Edg) (e : Ending) (w' : World) : Prop :=
  Keep [] w w' ∧ match r with
    | none => ∃ z : List Int, z.length = 23 ∧ e = .returned (.tuple #[.agg (iv z).toArray, .bool false])
    | some t => e = .returned (.tuple #[.agg (edgCells t).toArray, .bool true])

set_option maxRecDepth 100000 in
set_option maxHeartbeats 8000000 in
theorem redge12_any (A : Option Addr) (cc : Nat) (ps : List ByteArray) (w : World) (h : Reads w 1 A ps.length (strs ps)) (hl : ps.length ≤ 1000001) (hcap : ps.length ≤ cc) (hz : ∀ p ∈ ps, p.size ≤ 1000000) :
    Calls Try.prog 76 #[.slice A ps.length cc] w (EdgePost w (edgeP ps)) := by
  by_cases h4 : ps.length < 4
  · have hq : decide ((ps.length : Int) < 4) = true := decide_eq_true (by omega)
    have hT : Hid (edgeP ps = none) := by
      show _ = _
      unfold edgeP
      cases numP ps 1 with
      | none => rfl
      | some a =>
        cases numP ps 2 with
        | none => rfl
        | some b =>
          simp only [Option.bind_some]
          rw [if_neg (fun hh => by omega)]
    clear h4 h
    go_enter Try.func76, Try.ntmps76
    go_wp2_with (refine stop_store 76 (.tmp 2) (.tmp 17) rfl ?_)
    constructor
    refine wpList_store_all rfl 76 (.tmp 2) (.tmp 17) rfl rfl rfl (vs := zEdge) agg_edge.2 (Blk.new _ _ _) (iv_one _) rfl ?_
    intro w1 d1 k1
    have kr1 : Keep [] w w1 := ((Keep.refl [] w).alloc _).trans k1 (fun y hy h => by simp at hy h; omega)
    go_wp2
    refine bodyPost_ret (results_cell_tmp rfl _ rfl rfl d1 agg_edge) rfl ?_
    rw [hT.out]
    exact ⟨kr1, _, rfl, rfl⟩
  · have hq : decide ((ps.length : Int) < 4) = false := decide_eq_false (by omega)
    have q4 : (4 : Int) ≤ (cc : Int) := by omega
    have q3 : (3 : Int) ≤ (cc : Int) := by omega
    have q5 : (3 : Int) < (ps.length : Int) := by omega
    obtain ⟨hTN, hTS⟩ := edge_nums (ps := ps) (by omega)
    have HNM := fun W (hk : Keep [] w W) => Lib.hid (rnumbers_any (Option.map (fun (x : Addr) => ({ block := x.block, off := x.off + 1 } : Addr)) A) (cc - 1) ((ps.drop 1).take 2) W (by rw [show ((ps.drop 1).take 2).length = 2 by simp; omega]; exact reads_part (h.keep0 hk) 1 2 (by omega)) (by simp; omega) (fun p hp => hz p (List.mem_of_mem_drop (List.mem_of_mem_take hp))))
    have hl3 : ((ps.drop 1).take 2).length = 2 := by simp; omega
    rw [hl3] at HNM
    have H4 : Hid (4 ≤ ps.length) := by show _ ≤ _; omega
    have HH := Lib.hid h
    have HP : Hid (∀ W, Keep [] w W → ∀ k, (hk : k < ps.length) → ∃ b o, A = some ⟨b, o, none⟩ ∧ W.cell? ⟨b, o + k, none⟩ = some (.string ps[k])) := fun W hk2 k hk => by
      obtain ⟨b, o, e, hb, hc⟩ := (HH.out.keep0 hk2).addr (by omega)
      exact ⟨b, o, e, hc k _ (by simp [strs, hk])⟩
    have hw3 : ∀ W, Hid (Calls Try.prog 77 #[.string (ps[3]'(by omega)), .int .i64 2] W fun e w' => e = .returned (.int .i64 (wordP proW (ps[3]'(by omega)))) ∧ Keep [] W w') := fun W => rword2_any (ps[3]'(by omega)) W
    obtain ⟨bA, oA, hA3⟩ : ∃ b o, A = some ⟨b, o, none⟩ := by
      obtain ⟨b, o, e, _⟩ := HP.out w (Keep.refl _ _) 3 (by omega)
      exact ⟨b, o, e⟩
    have h3 : ∀ W, Keep [] w W → W.cell? ⟨bA, oA + 3, none⟩ = some (.string (ps[3]'(by omega))) := fun W hk => by
      obtain ⟨b, o, e, hc⟩ := HP.out W hk 3 (by omega)
      rw [hA3] at e
      cases e
      exact hc
    generalize ps[3]'(by omega) = q3' at *
    clear h4 h HH
    subst hA3
    go_enter Try.func76, Try.ntmps76
    have hB0 := Blk.new w 76 zEdge.toArray
    have K0 : Keep [] w (w.alloc (.cells zEdge.toArray 76)) := (Keep.refl [] w).alloc _
    have HK0 := Lib.hid K0
    have HB0 := Lib.hid hB0
    clear K0 hB0
    go_wp2_with fail
    refine (HNM _ HK0.out).out.mono ?_
    rintro e w1 ⟨k1, hp⟩
    have K1 := Lib.hid (HK0.out.then k1)
    have hbz := HB0.out.keep0 k1
    have HBZ := Lib.hid hbz
    have hg1 := hbz.lt
    clear HB0 HK0 k1 HNM
    obtain ⟨g, hg⟩ : ∃ g, w.heap.size = g := ⟨_, rfl⟩
    have hgg : w.heap.size ≤ g := by omega
    rw [hg] at hbz HBZ hg1 ⊢
    clear hg
    cases hnl : numL ((ps.drop 1).take 2) with
    | none =>
      rw [hnl] at hp
      obtain rfl := hp
      have hT := Lib.hid (hTN hnl)
      clear hTS hTN
      go_wp2_with (refine stop_store 76 (.tmp 2) (.tmp 33) rfl ?_)
      constructor
      refine wpList_store_all rfl 76 (.tmp 2) (.tmp 33) rfl rfl rfl (vs := zEdge) agg_edge.2 hbz (iv_one _) rfl ?_
      intro wz dz kz
      have krz := K1.out.trans kz (fun y hy h => by simp at hy; omega)
      go_wp2
      refine bodyPost_ret (results_cell_tmp rfl _ rfl rfl dz agg_edge) rfl ?_
      rw [hT.out]
      exact ⟨krz, _, rfl, rfl⟩
    | some l =>
      rw [hnl] at hp
      obtain ⟨V, rfl, hrow⟩ := hp
      obtain ⟨a, b, rfl, hT⟩ := hTS l hnl
      have HT := Lib.hid hT
      obtain ⟨A', c', rfl⟩ := own_shape hrow
      obtain ⟨b', o', rfl, hb', hcc⟩ := (Reads.of_own hrow).addr (by simp)
      have hF : ∀ w', Keep [] w1 w' → w'.cell? ⟨b', o', none⟩ = some (.int .i64 a) ∧ w'.cell? ⟨b', o' + 1, none⟩ = some (.int .i64 b) := fun w' k =>
        ⟨by rw [k.cell hb' (by simp)]; exact hcc 0 _ rfl, by rw [k.cell hb' (by simp)]; exact hcc 1 _ rfl⟩
      have h31 : ∀ w', Keep [] w1 w' → w'.cell? ⟨bA, oA + 3, none⟩ = some (.string q3') := fun w' k => h3 w' (K1.out.then k)
      have c31 := h31 w1 (Keep.refl _ _)
      clear hTS hTN hnl hT hrow hcc hbz h3
      have hw31 := hw3 w1
      by_cases hwd : wordP proW q3' = 0
      · have hT0 : Hid (edgeP ps = none) := by show _ = _; rw [HT.out, if_neg (fun hh => hh hwd)]
        rw [hwd] at hw31
        clear hF h31 hw3 HT hwd
        go_wp2_with (first
          | (refine hw31.out.mono ?_; clear hw31; rintro e w2 ⟨rfl, k2⟩)
          | (refine stop_store 76 (.tmp 2) (.tmp 33) rfl ?_))
        constructor
        refine wpList_store_all rfl 76 (.tmp 2) (.tmp 33) rfl rfl rfl (vs := zEdge) agg_edge.2 (HBZ.out.keep0 k2) (iv_one _) rfl ?_
        intro wz dz kz
        have krz := (K1.out.then k2).trans kz (fun y hy h => by simp at hy; omega)
        go_wp2
        refine bodyPost_ret (results_cell_tmp rfl _ rfl rfl dz agg_edge) rfl ?_
        rw [hT0.out]
        exact ⟨krz, _, rfl, rfl⟩
      · have hT1 : Hid (edgeP ps = (edgePairs (ps.drop 4) (List.replicate 4 0) (List.replicate 16 0)).map (fun mo => ⟨a, b, wordP proW q3', mo.2, mo.1⟩)) := by show _ = _; rw [HT.out, if_pos hwd]
        have hwb : (wordP proW q3' == 0) = false := by simpa using hwd
        clear HT hwd
        generalize wordP proW q3' = wd at *
        go_wp2_with (refine hw31.out.mono ?_; clear hw31; rintro e w2 ⟨rfl, k2⟩; have hF2 : ∀ w', Keep [] w2 w' → w'.cell? ⟨b', o', none⟩ = some (.int .i64 a) ∧ w'.cell? ⟨b', o' + 1, none⟩ = some (.int .i64 b) ∧ w'.cell? ⟨bA, oA + 3, none⟩ = some (.string q3') := fun w' k => ⟨(hF w' (k2.then k)).1, (hF w' (k2.then k)).2, h31 w' (k2.then k)⟩; have K2 := Lib.hid (K1.out.then k2); have HB2 := Lib.hid (HBZ.out.keep0 k2); have hs2 := k2.size; clear hF h31 k2 K1 HBZ)
        go_upto_region 6 with fail
        refine ap_begin 12 (Keep [] w2) rfl (Keep.refl _ _).drew (fun hS hPan => ?_) (fun _ _ d _ _ h => by cases d <;> exact h)
        (refine ap_val (v := ?_) 0 rfl (by kernel_rfl) (by kernel_rfl) (by kernel_rfl) (by kernel_rfl) (by rfl) hPan ?_ hS ?_; rotate_left; (intro w' hSw; go_simp; try with_reducible rfl); simp only [Act.put, List.setIfInBounds_toArray, List.set_cons_zero, List.set_cons_succ])
        (refine ap_val (v := ?_) 1 rfl (by kernel_rfl) (by kernel_rfl) (by kernel_rfl) (by kernel_rfl) (by rfl) hPan ?_ hS ?_; rotate_left; (intro w' hSw; go_simp; try with_reducible rfl); simp only [Act.put, List.setIfInBounds_toArray, List.set_cons_zero, List.set_cons_succ])
        (refine ap_val (v := ?_) 2 rfl (by kernel_rfl) (by kernel_rfl) (by kernel_rfl) (by kernel_rfl) (by rfl) hPan ?_ hS ?_; rotate_left; (intro w' hSw; obtain ⟨f1,f2,f3⟩ := hF2 w' hSw; go_simp; try with_reducible rfl); simp only [Act.put, List.setIfInBounds_toArray, List.set_cons_zero, List.set_cons_succ])
        (refine ap_val (v := ?_) 3 rfl (by kernel_rfl) (by kernel_rfl) (by kernel_rfl) (by kernel_rfl) (by rfl) hPan ?_ hS ?_; rotate_left; (intro w' hSw; go_simp; try with_reducible rfl); simp only [Act.put, List.setIfInBounds_toArray, List.set_cons_zero, List.set_cons_succ])
        (refine ap_val (v := ?_) 4 rfl (by kernel_rfl) (by kernel_rfl) (by kernel_rfl) (by kernel_rfl) (by rfl) hPan ?_ hS ?_; rotate_left; (intro w' hSw; go_simp; try with_reducible rfl); simp only [Act.put, List.setIfInBounds_toArray, List.set_cons_zero, List.set_cons_succ])
        (refine ap_val (v := ?_) 5 rfl (by kernel_rfl) (by kernel_rfl) (by kernel_rfl) (by kernel_rfl) (by rfl) hPan ?_ hS ?_; rotate_left; (intro w' hSw; obtain ⟨f1,f2,f3⟩ := hF2 w' hSw; go_simp; try with_reducible rfl); simp only [Act.put, List.setIfInBounds_toArray, List.set_cons_zero, List.set_cons_succ])
        (refine ap_val (v := ?_) 6 rfl (by kernel_rfl) (by kernel_rfl) (by kernel_rfl) (by kernel_rfl) (by rfl) hPan ?_ hS ?_; rotate_left; (intro w' hSw; go_simp; try with_reducible rfl); simp only [Act.put, List.setIfInBounds_toArray, List.set_cons_zero, List.set_cons_succ])
        (refine ap_val (v := ?_) 7 rfl (by kernel_rfl) (by kernel_rfl) (by kernel_rfl) (by kernel_rfl) (by rfl) hPan ?_ hS ?_; rotate_left; (intro w' hSw; go_simp; try with_reducible rfl); simp only [Act.put, List.setIfInBounds_toArray, List.set_cons_zero, List.set_cons_succ])
        (refine ap_val (v := ?_) 8 rfl (by kernel_rfl) (by kernel_rfl) (by kernel_rfl) (by kernel_rfl) (by rfl) hPan ?_ hS ?_; rotate_left; (intro w' hSw; obtain ⟨f1,f2,f3⟩ := hF2 w' hSw; go_simp; try with_reducible rfl); simp only [Act.put, List.setIfInBounds_toArray, List.set_cons_zero, List.set_cons_succ])
        refine ap_two 9 11 (by kernel_rfl) ?_ ?_
        case' refine_1 =>
          refine op_call 9 rfl (by rfl) rfl (by simp only [List.map_toArray, List.map_cons, List.map_nil]; rfl) Try.func77 (by kernel_rfl) (by kernel_rfl) (hw3 _).out (fun e w4 hp => ?_)
          obtain ⟨rfl, k4⟩ := hp
          replace hS := hS.then k4
          refine ⟨_, rfl, fun _ => hS, ?_⟩
          (simp only [Act.put, List.setIfInBounds_toArray, List.set_cons_zero, List.set_cons_succ])
          (refine ap_val (v := ?_) 10 rfl (by kernel_rfl) (by kernel_rfl) (by kernel_rfl) (by kernel_rfl) (by rfl) hPan ?_ hS ?_; rotate_left; (intro w' hSw; go_simp; try with_reducible rfl); simp only [Act.put, List.setIfInBounds_toArray, List.set_cons_zero, List.set_cons_succ])
          refine ap_one 11 (by kernel_rfl) ?_
          refine op_run (v := .pointer (some ⟨w4.heap.size, 0, none⟩)) (w' := w4.alloc (.cells zEdge.toArray 76)) 11 rfl (by rfl) (by go_simp; rfl) ?_
          refine ⟨fun _ => hS.alloc _, ?_⟩
          (simp only [Act.put, List.setIfInBounds_toArray, List.set_cons_zero, List.set_cons_succ])
          refine ap_one 12 (by kernel_rfl) ?_
          refine op_store_all 12 rfl (by rfl) rfl rfl rfl (vs := edgCells ⟨a, b, wd, List.replicate 16 0, List.replicate 4 0⟩) agg_edge.2 (Blk.new w4 76 zEdge.toArray) (iv_one _) rfl ?_
          intro w3 d3 k3
          have k13 : Keep [] w2 w3 := (hS.alloc _).trans k3 (fun y hy h => by have := hS.size; simp at hy; subst hy; omega)
          obtain ⟨g6, hg6⟩ : ∃ g6, w4.heap.size = g6 := ⟨_, rfl⟩
          have h66 : w2.heap.size ≤ g6 := by have := hS.size; omega
          rw [hg6] at d3 ⊢
          clear k4 k3 hg6 hS
        case' refine_2 =>
          refine op_run (v := .pointer (some ⟨w2.heap.size, 0, none⟩)) (w' := w2.drew.alloc (.cells zEdge.toArray 76)) 11 rfl (by rfl) (by go_simp; rfl) ?_
          refine ⟨fun _ => hS.alloc _, ?_⟩
          have hd0 := Blk.new w2.drew 76 zEdge.toArray
          replace hS := hS.alloc (.cells zEdge.toArray 76)
          (simp only [Act.put, List.setIfInBounds_toArray, List.set_cons_zero, List.set_cons_succ])
          refine ap_one 9 (by kernel_rfl) ?_
          refine op_call 9 rfl (by rfl) rfl (by simp only [List.map_toArray, List.map_cons, List.map_nil]; rfl) Try.func77 (by kernel_rfl) (by kernel_rfl) (hw3 _).out (fun e w4 hp => ?_)
          obtain ⟨rfl, k4⟩ := hp
          replace hS := hS.then k4
          refine ⟨_, rfl, fun _ => hS, ?_⟩
          (simp only [Act.put, List.setIfInBounds_toArray, List.set_cons_zero, List.set_cons_succ])
          (refine ap_val (v := ?_) 10 rfl (by kernel_rfl) (by kernel_rfl) (by kernel_rfl) (by kernel_rfl) (by rfl) hPan ?_ hS ?_; rotate_left; (intro w' hSw; go_simp; try with_reducible rfl); simp only [Act.put, List.setIfInBounds_toArray, List.set_cons_zero, List.set_cons_succ])
          refine ap_one 12 (by kernel_rfl) ?_
          refine op_store_all 12 rfl (by rfl) rfl rfl rfl (vs := edgCells ⟨a, b, wd, List.replicate 16 0, List.replicate 4 0⟩) agg_edge.2 (hd0.keep0 k4) (iv_one _) rfl ?_
          intro w3 d3 k3
          have k13 : Keep [] w2 w3 := hS.trans k3 (fun y hy h => by simp at hy; subst hy; change w2.heap.size < w2.heap.size at h; omega)
          obtain ⟨g6, hg6⟩ : ∃ g6, w2.heap.size = g6 := ⟨_, rfl⟩
          have h66 : w2.heap.size ≤ g6 := by omega
          change Blk w3 w2.heap.size _ _ at d3
          rw [hg6] at d3 ⊢
          clear hd0 k4 k3 hg6 hS
        all_goals
          refine ⟨fun h => (by cases h), ap_done (by kernel_rfl) ?_ _⟩
          (simp only [Act.put, List.setIfInBounds_toArray, List.set_cons_zero, List.set_cons_succ])
          have KW := Lib.hid (K2.out.then k13)
          have HB3 := Lib.hid (HB2.out.keep0 k13)
          have HD3 := Lib.hid d3
          have HG6 : Hid (w.heap.size ≤ g6) := by show _ ≤ _; have := K2.out.size; omega
          have HNE : Hid (g6 ≠ g) := by show _ ≠ _; omega
          clear hPan k13 d3 hF2 K2 HB2 hw3 h66
          go_wp2
          go_loopw [7] (fun v7 wr => ∃ (i : Nat) (m of : List Int), 4 ≤ i ∧ i ≤ ps.length ∧ v7 = .int .i64 (i : Int) ∧ edgePairs (ps.drop 4) (List.replicate 4 0) (List.replicate 16 0) = edgePairs (ps.drop i) m of ∧ of.length = 16 ∧ m.length = 4 ∧ Blk wr g6 76 (edgCells ⟨a, b, wd, of, m⟩).toArray ∧ Blk wr g 76 zEdge.toArray ∧ Keep [] w wr) (fun v7 _ => ps.length - (intOf v7).toNat)
          case atStart => exact ⟨4, _, _, Nat.le_refl _, H4.out, rfl, rfl, rfl, rfl, HD3.out, HB3.out, KW.out⟩
          case round =>
            obtain ⟨i, m, of, hi4, hil, rfl, hT, hlo, hlm, hbt, hbz, hkw⟩ := hrel
            have HKW := Lib.hid hkw
            have HBT := Lib.hid hbt
            have HBZ := Lib.hid hbz
            by_cases hlt : i < ps.length
            · obtain ⟨bp, op, hA, hcell⟩ := HP.out wr hkw i hlt
              cases hA
              have p0 : (0 : Int) ≤ (i : Int) := by omega
              have p1 : (i : Int) < (ps.length : Int) := by omega
              have hcells : ∀ W, Keep [] wr W → W.cell? ⟨bA, oA + i, none⟩ = some (.string ps[i]) := fun W k => by
                obtain ⟨b2, o2, e2, h2⟩ := HP.out W (hkw.then k) i hlt
                cases e2
                exact h2
              have HC1 : Hid (Calls Try.prog 90 #[.string ps[i], .int .u8 62, .int .i64 4] wr fun e w' => e = .returned (.tuple #[.int .i64 (cutP 62 4 ps[i]).1, .int .i64 (cutP 62 4 ps[i]).2.1, .bool (cutP 62 4 ps[i]).2.2]) ∧ Keep [] wr w') := rcut_any ps[i] 62 (by decide) 4 (hz _ (List.getElem_mem hlt)) wr
              have HC2 : ∀ W, Hid (Calls Try.prog 90 #[.string ps[i], .int .u8 58, .int .i64 16] W fun e w' => e = .returned (.tuple #[.int .i64 (cutP 58 16 ps[i]).1, .int .i64 (cutP 58 16 ps[i]).2.1, .bool (cutP 58 16 ps[i]).2.2]) ∧ Keep [] W w') := fun W => rcut_any ps[i] 58 (by decide) 16 (hz _ (List.getElem_mem hlt)) W
              have HPM : Hid (pairP 62 ps[i] m = if (cutP 62 4 ps[i]).2.2 = true ∧ m.getD (cutP 62 4 ps[i]).1.toNat 0 = 0 then some (m.set (cutP 62 4 ps[i]).1.toNat (cutP 62 4 ps[i]).2.1) else none) := by
                have := pairP_cut 62 ps[i] m
                rw [hlm] at this
                exact this
              have HPO : Hid (pairP 58 ps[i] of = if (cutP 58 16 ps[i]).2.2 = true ∧ of.getD (cutP 58 16 ps[i]).1.toNat 0 = 0 then some (of.set (cutP 58 16 ps[i]).1.toNat (cutP 58 16 ps[i]).2.1) else none) := by
                have := pairP_cut 58 ps[i] of
                rw [hlo] at this
                exact this
              have HST : Hid (edgePairs (ps.drop 4) (List.replicate 4 0) (List.replicate 16 0) = match pairP 62 ps[i] m with
                  | some m' => edgePairs (ps.drop (i + 1)) m' of
                  | none => match pairP 58 ps[i] of with
                    | some o' => edgePairs (ps.drop (i + 1)) m o'
                    | none => none) := by show _ = _; rw [hT, List.drop_eq_getElem_cons hlt]; rfl
              have HIN : Hid ((cutP 62 4 ps[i]).2.2 = true → ∃ (j : Nat) (n : Int), j < 4 ∧ cutP 62 4 ps[i] = ((j : Int), n, true)) := fun h => cutP_in (most := 4) h
              have HIN2 : Hid ((cutP 58 16 ps[i]).2.2 = true → ∃ (j : Nat) (n : Int), j < 16 ∧ cutP 58 16 ps[i] = ((j : Int), n, true)) := fun h => cutP_in (most := 16) h
              have HA : Hid (True) := trivial
              have hcell5 := hcells
              clear hT hbt hbz hkw hcells
              generalize ps[i] = q at *
              cases hcb : (cutP 62 4 q).2.2 with
              | false =>
                have hP1 : Hid (pairP 62 q m = none) := by show _ = _; rw [HPM.out, hcb, if_neg (by simp)]
                rw [hcb] at HC1
                clear hcb HPM HIN
                generalize cutP 62 4 q = c1 at *
                cases hd : (cutP 58 16 q).2.2 with
                | false =>
                  have hN : Hid (edgeP ps = none) := by show _ = _; rw [hT1.out, HST.out, hP1.out, HPO.out, hd, if_neg (by simp)]; rfl
                  rw [hd] at HC2
                  clear hd HST HPO hP1 HIN2
                  generalize cutP 58 16 q = c2 at *
                  go_wp2_with (first
                    | (refine HC1.out.mono ?_; clear HC1; rintro e w5 ⟨rfl, k5⟩)
                    | (refine (HC2 _).out.mono ?_; clear HC2; rintro e w6 ⟨rfl, k6⟩; have k56 := k5.then k6)
                    | (refine wpList_load_agg rfl 76 (.tmp 6) rfl rfl (cs := edgCells ⟨a, b, wd, of, m⟩) (by rw [edgCells_len hlo hlm]; exact agg_edge) (HBT.out.keep0 k56).cellsAt ?_)
                    | (refine stop_store 76 (.tmp 2) (.tmp 69) rfl ?_))
                  constructor
                  refine wpList_store_all rfl 76 (.tmp 2) (.tmp 69) rfl rfl rfl (vs := edgCells ⟨a, b, wd, of, m⟩) (by rw [edgCells_len hlo hlm]; exact agg_edge.2) (HBZ.out.keep0 k56) (iv_one _) (by rw [edgCells_len hlo hlm]; rfl) ?_
                  intro wz dz kz
                  have krz := (HKW.out.then k56).trans kz (fun y hy h => by simp at hy; omega)
                  go_wp2
                  refine bodyPost_ret (results_cell_tmp rfl _ rfl rfl dz (by rw [edgCells_len hlo hlm]; exact agg_edge)) rfl ?_
                  rw [hN.out]
                  exact ⟨krz, edgInts ⟨a, b, wd, of, m⟩, by simp [edgInts, hlo, hlm], rfl⟩
                | true =>
                  obtain ⟨j2, n2, hj2, hjn2⟩ := HIN2.out hd
                  rw [hjn2] at HC2 HPO
                  dsimp only at HC2 HPO
                  rw [Int.toNat_natCast] at HPO
                  clear HIN2 hd hjn2
                  have hgd2 : of.getD j2 0 = of[j2]'(by omega) := getD_of (by omega)
                  have hat2 : ∀ W, Keep [] wr W → W.cell? ⟨g6, 3 + j2, none⟩ = some (.int .i64 (of[j2]'(by omega))) := fun W k => (edg_ino (HBT.out.keep0 k)).cell (by omega)
                  have i0 : (0 : Int) ≤ (j2 : Int) := by omega
                  have i1 : (j2 : Int) < 16 := by omega
                  rw [hgd2] at HPO
                  by_cases hz2 : of[j2]'(by omega) = 0
                  · have hS2 : Hid (edgePairs (ps.drop 4) (List.replicate 4 0) (List.replicate 16 0) = edgePairs (ps.drop (i + 1)) m (of.set j2 n2)) := by show _ = _; rw [HST.out, hP1.out, HPO.out, if_pos ⟨rfl, hz2⟩]
                    rw [hz2] at hat2
                    clear hz2 HST HPO hgd2 hP1
                    go_wp2_with (first
                      | (refine HC1.out.mono ?_; clear HC1; rintro e w5 ⟨rfl, k5⟩)
                      | (refine (HC2 _).out.mono ?_; clear HC2; rintro e w6 ⟨rfl, k6⟩; have k56 := k5.then k6; have hb := hat2 _ k56; have ff := (HBT.out.keep0 k56).frozen (3 + j2)))
                    (try rw [← HA.out])
                    go_roundw
                    case rel =>
                      refine ⟨i + 1, m, of.set j2 n2, by omega, by omega, by go_num, hS2.out, by simp [hlo], hlm, ?_, (HBZ.out.keep0 k56).far (Ne.symm HNE.out) _, (HKW.out.then k56).setCell (fun h => by dsimp only at h; have := HG6.out; omega) _⟩
                      rw [← edg_seto a b wd of m j2 n2 (by omega)]
                      exact (HBT.out.keep0 k56).set_ (3 + j2) _
                    case measure => simp [intOf]; omega
                  · have hN : Hid (edgeP ps = none) := by show _ = _; rw [hT1.out, HST.out, hP1.out, HPO.out, if_neg (fun h => hz2 h.2)]; rfl
                    have hzb2 : ((of[j2]'(by omega)) == 0) = false := by simpa using hz2
                    clear hz2 HST HPO hgd2 hP1
                    generalize of[j2]'(by omega) = oj at *
                    go_wp2_with (first
                      | (refine HC1.out.mono ?_; clear HC1; rintro e w5 ⟨rfl, k5⟩)
                      | (refine (HC2 _).out.mono ?_; clear HC2; rintro e w6 ⟨rfl, k6⟩; have k56 := k5.then k6; have hb := hat2 _ k56)
                      | (refine wpList_load_agg rfl 76 (.tmp 6) rfl rfl (cs := edgCells ⟨a, b, wd, of, m⟩) (by rw [edgCells_len hlo hlm]; exact agg_edge) (HBT.out.keep0 k56).cellsAt ?_)
                      | (refine stop_store 76 (.tmp 2) (.tmp 69) rfl ?_))
                    constructor
                    refine wpList_store_all rfl 76 (.tmp 2) (.tmp 69) rfl rfl rfl (vs := edgCells ⟨a, b, wd, of, m⟩) (by rw [edgCells_len hlo hlm]; exact agg_edge.2) (HBZ.out.keep0 k56) (iv_one _) (by rw [edgCells_len hlo hlm]; rfl) ?_
                    intro wz dz kz
                    have krz := (HKW.out.then k56).trans kz (fun y hy h => by simp at hy; omega)
                    go_wp2
                    refine bodyPost_ret (results_cell_tmp rfl _ rfl rfl dz (by rw [edgCells_len hlo hlm]; exact agg_edge)) rfl ?_
                    rw [hN.out]
                    exact ⟨krz, edgInts ⟨a, b, wd, of, m⟩, by simp [edgInts, hlo, hlm], rfl⟩
              | true =>
                obtain ⟨j, n, hj, hjn⟩ := HIN.out hcb
                rw [hjn] at HC1 HPM
                dsimp only at HC1 HPM
                rw [Int.toNat_natCast] at HPM
                clear HIN hcb hjn
                have hgd : m.getD j 0 = m[j]'(by omega) := getD_of (by omega)
                have hat : ∀ W, Keep [] wr W → W.cell? ⟨g6, 19 + j, none⟩ = some (.int .i64 (m[j]'(by omega))) := fun W k => (edg_inm (HBT.out.keep0 k) hlo).cell (by omega)
                have j0 : (0 : Int) ≤ (j : Int) := by omega
                have j1 : (j : Int) < 4 := by omega
                rw [hgd] at HPM
                by_cases hz0 : m[j]'(by omega) = 0
                · have hS2 : Hid (edgePairs (ps.drop 4) (List.replicate 4 0) (List.replicate 16 0) = edgePairs (ps.drop (i + 1)) (m.set j n) of) := by show _ = _; rw [HST.out, HPM.out, if_pos ⟨rfl, hz0⟩]
                  rw [hz0] at hat
                  clear hz0 HST HPM hgd HPO HIN2
                  generalize cutP 58 16 q = c2 at *
                  go_wp2_with (first
                    | (refine HC1.out.mono ?_; clear HC1; rintro e w5 ⟨rfl, k5⟩)
                    | (refine (HC2 _).out.mono ?_; clear HC2; rintro e w6 ⟨rfl, k6⟩; have k56 := k5.then k6; have ha := hat _ k56; have ff := (HBT.out.keep0 k56).frozen (19 + j)))
                  (try rw [← HA.out])
                  go_roundw
                  case rel =>
                    refine ⟨i + 1, m.set j n, of, by omega, by omega, by go_num, hS2.out, hlo, by simp [hlm], ?_, (HBZ.out.keep0 k56).far (Ne.symm HNE.out) _, (HKW.out.then k56).setCell (fun h => by dsimp only at h; have := HG6.out; omega) _⟩
                    rw [← edg_setm a b wd of m j n hlo]
                    exact (HBT.out.keep0 k56).set_ (19 + j) _
                  case measure => simp [intOf]; omega
                · have hP1 : Hid (pairP 62 q m = none) := by show _ = _; rw [HPM.out, if_neg (fun h => hz0 h.2)]
                  have hzb : ((m[j]'(by omega)) == 0) = false := by simpa using hz0
                  clear hz0 HPM hgd
                  generalize m[j]'(by omega) = mj at *
                  cases hd : (cutP 58 16 q).2.2 with
                  | false =>
                    have hN : Hid (edgeP ps = none) := by show _ = _; rw [hT1.out, HST.out, hP1.out, HPO.out, hd, if_neg (by simp)]; rfl
                    rw [hd] at HC2
                    clear hd HST HPO hP1 HIN2
                    generalize cutP 58 16 q = c2 at *
                    go_wp2_with (first
                      | (refine HC1.out.mono ?_; clear HC1; rintro e w5 ⟨rfl, k5⟩)
                      | (refine (HC2 _).out.mono ?_; clear HC2; rintro e w6 ⟨rfl, k6⟩; have k56 := k5.then k6; have ha := hat _ k56)
                      | (refine wpList_load_agg rfl 76 (.tmp 6) rfl rfl (cs := edgCells ⟨a, b, wd, of, m⟩) (by rw [edgCells_len hlo hlm]; exact agg_edge) (HBT.out.keep0 k56).cellsAt ?_)
                      | (refine stop_store 76 (.tmp 2) (.tmp 69) rfl ?_))
                    constructor
                    refine wpList_store_all rfl 76 (.tmp 2) (.tmp 69) rfl rfl rfl (vs := edgCells ⟨a, b, wd, of, m⟩) (by rw [edgCells_len hlo hlm]; exact agg_edge.2) (HBZ.out.keep0 k56) (iv_one _) (by rw [edgCells_len hlo hlm]; rfl) ?_
                    intro wz dz kz
                    have krz := (HKW.out.then k56).trans kz (fun y hy h => by simp at hy; omega)
                    go_wp2
                    refine bodyPost_ret (results_cell_tmp rfl _ rfl rfl dz (by rw [edgCells_len hlo hlm]; exact agg_edge)) rfl ?_
                    rw [hN.out]
                    exact ⟨krz, edgInts ⟨a, b, wd, of, m⟩, by simp [edgInts, hlo, hlm], rfl⟩
                  | true =>
                    obtain ⟨j2, n2, hj2, hjn2⟩ := HIN2.out hd
                    rw [hjn2] at HC2 HPO
                    dsimp only at HC2 HPO
                    rw [Int.toNat_natCast] at HPO
                    clear HIN2 hd hjn2
                    have hgd2 : of.getD j2 0 = of[j2]'(by omega) := getD_of (by omega)
                    have hat2 : ∀ W, Keep [] wr W → W.cell? ⟨g6, 3 + j2, none⟩ = some (.int .i64 (of[j2]'(by omega))) := fun W k => (edg_ino (HBT.out.keep0 k)).cell (by omega)
                    have i0 : (0 : Int) ≤ (j2 : Int) := by omega
                    have i1 : (j2 : Int) < 16 := by omega
                    rw [hgd2] at HPO
                    by_cases hz2 : of[j2]'(by omega) = 0
                    · have hS2 : Hid (edgePairs (ps.drop 4) (List.replicate 4 0) (List.replicate 16 0) = edgePairs (ps.drop (i + 1)) m (of.set j2 n2)) := by show _ = _; rw [HST.out, hP1.out, HPO.out, if_pos ⟨rfl, hz2⟩]
                      rw [hz2] at hat2
                      clear hz2 HST HPO hgd2 hP1
                      go_wp2_with (first
                        | (refine HC1.out.mono ?_; clear HC1; rintro e w5 ⟨rfl, k5⟩)
                        | (refine (HC2 _).out.mono ?_; clear HC2; rintro e w6 ⟨rfl, k6⟩; have k56 := k5.then k6; have ha := hat _ k56; have hb := hat2 _ k56; have ff := (HBT.out.keep0 k56).frozen (3 + j2)))
                      (try rw [← HA.out])
                      go_roundw
                      case rel =>
                        refine ⟨i + 1, m, of.set j2 n2, by omega, by omega, by go_num, hS2.out, by simp [hlo], hlm, ?_, (HBZ.out.keep0 k56).far (Ne.symm HNE.out) _, (HKW.out.then k56).setCell (fun h => by dsimp only at h; have := HG6.out; omega) _⟩
                        rw [← edg_seto a b wd of m j2 n2 (by omega)]
                        exact (HBT.out.keep0 k56).set_ (3 + j2) _
                      case measure => simp [intOf]; omega
                    · have hN : Hid (edgeP ps = none) := by show _ = _; rw [hT1.out, HST.out, hP1.out, HPO.out, if_neg (fun h => hz2 h.2)]; rfl
                      have hzb2 : ((of[j2]'(by omega)) == 0) = false := by simpa using hz2
                      clear hz2 HST HPO hgd2 hP1
                      generalize of[j2]'(by omega) = oj at *
                      go_wp2_with (first
                        | (refine HC1.out.mono ?_; clear HC1; rintro e w5 ⟨rfl, k5⟩)
                        | (refine (HC2 _).out.mono ?_; clear HC2; rintro e w6 ⟨rfl, k6⟩; have k56 := k5.then k6; have ha := hat _ k56; have hb := hat2 _ k56)
                        | (refine wpList_load_agg rfl 76 (.tmp 6) rfl rfl (cs := edgCells ⟨a, b, wd, of, m⟩) (by rw [edgCells_len hlo hlm]; exact agg_edge) (HBT.out.keep0 k56).cellsAt ?_)
                        | (refine stop_store 76 (.tmp 2) (.tmp 69) rfl ?_))
                      constructor
                      refine wpList_store_all rfl 76 (.tmp 2) (.tmp 69) rfl rfl rfl (vs := edgCells ⟨a, b, wd, of, m⟩) (by rw [edgCells_len hlo hlm]; exact agg_edge.2) (HBZ.out.keep0 k56) (iv_one _) (by rw [edgCells_len hlo hlm]; rfl) ?_
                      intro wz dz kz
                      have krz := (HKW.out.then k56).trans kz (fun y hy h => by simp at hy; omega)
                      go_wp2
                      refine bodyPost_ret (results_cell_tmp rfl _ rfl rfl dz (by rw [edgCells_len hlo hlm]; exact agg_edge)) rfl ?_
                      rw [hN.out]
                      exact ⟨krz, edgInts ⟨a, b, wd, of, m⟩, by simp [edgInts, hlo, hlm], rfl⟩
            · obtain rfl : i = ps.length := by omega
              have hS2 : Hid (edgeP ps = some ⟨a, b, wd, of, m⟩) := by show _ = _; rw [hT1.out, hT, List.drop_eq_nil_iff.2 (Nat.le_refl _)]; rfl
              clear hT hbt hbz hkw
              go_wp2_with (first
                | (refine wpList_load_agg rfl 76 (.tmp 6) rfl rfl (cs := edgCells ⟨a, b, wd, of, m⟩) (by rw [edgCells_len hlo hlm]; exact agg_edge) HBT.out.cellsAt ?_)
                | (refine stop_store 76 (.tmp 2) (.tmp 96) rfl ?_))
              constructor
              refine wpList_store_all rfl 76 (.tmp 2) (.tmp 96) rfl rfl rfl (vs := edgCells ⟨a, b, wd, of, m⟩) (by rw [edgCells_len hlo hlm]; exact agg_edge.2) HBZ.out (iv_one _) (by rw [edgCells_len hlo hlm]; rfl) ?_
              intro wz dz kz
              have krz := HKW.out.trans kz (fun y hy h => by simp at hy; omega)
              go_wp2
              refine bodyPost_ret (results_cell_tmp rfl _ rfl rfl dz (by rw [edgCells_len hlo hlm]; exact agg_edge)) rfl ?_
              rw [hS2.out]
              exact ⟨krz, rfl⟩
end Go.Proofs.Ytoepkhkaifgddaa
