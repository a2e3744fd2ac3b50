/- The reader's line 'edge', walked. Condition: as the reader's. -/
import Derived.Test.YtoepkhkaifgddaaSrcQu
namespace Go.Proofs.Ytoepkhkaifgddaa
open Go.RowKit

/-- The last of the first k protocols whose word it is. -/
def protU (p : ByteArray) : Nat → Int
  | 0 => 0
  | k + 1 => if bytesOf p = proW (k : Int) then (k : Int) else protU p k
theorem protU_four (p : ByteArray) : protU p 4 = wordP proW p := by
  unfold wordP
  simp only [protU]
  have e0 : (if bytesOf p = proW ((0 : Nat) : Int) then ((0 : Nat) : Int) else 0) = 0 := by split <;> rfl
  rw [e0]
  by_cases h1 : bytesOf p = proW 1
  · rw [if_pos h1]
    have h3 : ¬ bytesOf p = proW ((3 : Nat) : Int) := by rw [h1]; decide
    have h2 : ¬ bytesOf p = proW ((2 : Nat) : Int) := by rw [h1]; decide
    rw [if_neg h3, if_neg h2, if_pos (show bytesOf p = proW ((1 : Nat) : Int) from h1)]
    rfl
  · rw [if_neg h1]
    by_cases h2 : bytesOf p = proW 2
    · rw [if_pos h2]
      have h3 : ¬ bytesOf p = proW ((3 : Nat) : Int) := by rw [h2]; decide
      rw [if_neg h3, if_pos (show bytesOf p = proW ((2 : Nat) : Int) from h2)]
      rfl
    · rw [if_neg h2, if_neg (show ¬ bytesOf p = proW ((2 : Nat) : Int) from h2), if_neg (show ¬ bytesOf p = proW ((1 : Nat) : Int) from h1)]
      rfl
theorem edg_setm (a b c : Int) (o l : List Int) (j : Nat) (n : Int) (h : o.length = 16) : (edgCells ⟨a, b, c, o, l⟩).toArray.setIfInBounds (19 + j) (.int .i64 n) = (edgCells ⟨a, b, c, o, l.set j n⟩).toArray := by
  unfold edgCells
  rw [iv_set]
  unfold edgInts
  have e : (o ++ l).set (16 + j) n = o ++ l.set j n := by rw [List.set_append_right _ _ (by omega), h]; simp
  dsimp only
  rw [← e, show 19 + j = 16 + j + 3 by omega]
  rfl
theorem edg_seto (a b c : Int) (o l : List Int) (j : Nat) (n : Int) (h : j < o.length) : (edgCells ⟨a, b, c, o, l⟩).toArray.setIfInBounds (3 + j) (.int .i64 n) = (edgCells ⟨a, b, c, o.set j n, l⟩).toArray := by
  unfold edgCells
  rw [iv_set]
  unfold edgInts
  have e : (o ++ l).set j n = o.set j n ++ l := by rw [List.set_append_left _ _ h]
  dsimp only
  rw [← e, show 3 + j = j + 3 by omega]
  rfl
theorem edg_setp (a b c : Int) (o l : List Int) (n : Int) : (edgCells ⟨a, b, c, o, l⟩).toArray.setIfInBounds 2 (.int .i64 n) = (edgCells ⟨a, b, n, o, l⟩).toArray := by
  unfold edgCells
  rw [iv_set]
  rfl
theorem edg_inm {W : World} {g : Nat} {a b c : Int} {o l : List Int} (hb : Blk W g 76 (edgCells ⟨a, b, c, o, l⟩).toArray) (h : o.length = 16) : RowIn W g 19 76 (edgCells ⟨a, b, c, o, l⟩).toArray l :=
  ⟨hb, fun j hj => by
    have h1 : o.length ≤ j + 16 := by omega
    have h2 : j + 16 - o.length = j := by omega
    simp [edgCells, edgInts, Nat.add_comm 19 j]
    rw [List.getElem?_append_right (by simpa using h1)]
    simp [h2, hj]⟩
theorem edg_ino {W : World} {g : Nat} {a b c : Int} {o l : List Int} (hb : Blk W g 76 (edgCells ⟨a, b, c, o, l⟩).toArray) : RowIn W g 3 76 (edgCells ⟨a, b, c, o, l⟩).toArray o :=
  ⟨hb, fun j hj => by simp [edgCells, edgInts, Nat.add_comm 3 j, List.getElem?_append, hj]⟩

set_option maxRecDepth 100000 in
set_option maxHeartbeats 8000000 in
theorem edge_any12 (b R : Nat) (x : Img) (vp : Value) (ps : List ByteArray) (w : World) (h : RdrIs w b R x vp ps) (hl : ps.length ≤ 1000001) (hz : ∀ p ∈ ps, p.size ≤ 1000000) (hxl : x.edges.length ≤ 1000000) :
    Calls Try.prog 71 #[.pointer (some ⟨R, 0, none⟩)] w (LinePost w b R ((edgeP ps).map fun t => { x with edges := x.edges ++ [t] }) vp ps) := by
  obtain ⟨vt, vm, ve, ms, hR⟩ := h
  obtain ⟨A, cc, rfl⟩ := own_shape hR.pcs
  have HR := Lib.hid hR
  have HN1 := Lib.hid (hR.num hl hz (i := 1) (by decide))
  have HN2 := Lib.hid (hR.num hl hz (i := 2) (by decide))
  have q4 := hR.blk.cell 4
  generalize hep : (edgeP ps).map (fun t => { x with edges := x.edges ++ [t] }) = res
  have hcase : (edgeP ps = none ∧ (numP ps 1 = none ∨ (∃ a, numP ps 1 = some a) ∧ numP ps 2 = none ∨ ps.length < 4)) ∨ (∃ a1 a2, numP ps 1 = some a1 ∧ numP ps 2 = some a2 ∧ 4 ≤ ps.length) := by
    cases h1 : numP ps 1 with
    | none => exact .inl ⟨by unfold edgeP; rw [h1]; rfl, .inl rfl⟩
    | some a1 =>
      cases h2 : numP ps 2 with
      | none => exact .inl ⟨by unfold edgeP; rw [h1, h2]; rfl, .inr (.inl ⟨⟨a1, rfl⟩, rfl⟩)⟩
      | some a2 =>
        rcases Nat.lt_or_ge ps.length 4 with h4 | h4
        · exact .inl ⟨by unfold edgeP; rw [h1, h2]; show (if _ then _ else _) = _; rw [if_neg (by rintro ⟨h, _⟩; omega)], .inr (.inr h4)⟩
        · exact .inr ⟨a1, a2, rfl, rfl, h4⟩
  rcases hcase with ⟨he, hw⟩ | ⟨a1, a2, h1, h2, h4⟩
  · have hT : Hid (res = none) := by show _ = _; rw [← hep, he]; rfl
    have hr1 := numP_range (ps := ps) (i := 1)
    have HRet : Hid (LinePost w b R res (.slice A ps.length cc) ps (.returned (.bool false)) w) := ⟨by rw [hT.out]; rfl, Chg.refl _ _ _ _, fun y hy => by rw [hT.out] at hy; cases hy⟩
    clear hR hep he
    rcases hw with h1 | ⟨⟨a, h1⟩, h2⟩ | h4
    · rw [h1] at HN1
      simp only [Option.getD_none, Option.isSome_none] at HN1
      generalize (numP ps 2).isSome = s2 at *
      generalize (numP ps 2).getD 0 = n2 at *
      cases s2
      all_goals
        go_enter Try.func71, Try.ntmps71
        go_wp2_with fail
        refine HN1.out.mono ?_
        rintro e w1 ⟨rfl, rfl⟩
        go_wp2_with fail
        refine HN2.out.mono ?_
        rintro e w1 ⟨rfl, rfl⟩
        go_wp2
        go_ret
        exact HRet.out
    · rw [h1] at HN1
      rw [h2] at HN2
      simp only [Option.getD_some, Option.isSome_some, Option.getD_none, Option.isSome_none] at HN1 HN2
      go_enter Try.func71, Try.ntmps71
      go_wp2_with fail
      refine HN1.out.mono ?_
      rintro e w1 ⟨rfl, rfl⟩
      go_wp2_with fail
      refine HN2.out.mono ?_
      rintro e w1 ⟨rfl, rfl⟩
      go_wp2
      go_ret
      exact HRet.out
    · have q5 : (ps.length : Int) < 4 := by omega
      generalize (numP ps 1).isSome = s1 at *
      generalize (numP ps 2).isSome = s2 at *
      generalize (numP ps 1).getD 0 = n1 at *
      generalize (numP ps 2).getD 0 = n2 at *
      cases s1 <;> cases s2
      all_goals
        go_enter Try.func71, Try.ntmps71
        go_wp2_with fail
        refine HN1.out.mono ?_
        rintro e w1 ⟨rfl, rfl⟩
        go_wp2_with fail
        refine HN2.out.mono ?_
        rintro e w1 ⟨rfl, rfl⟩
        go_wp2
        go_ret
        exact HRet.out
  · rw [h1] at HN1
    rw [h2] at HN2
    simp only [Option.getD_some, Option.isSome_some] at HN1 HN2
    have hp3 : 3 < ps.length := by omega
    obtain ⟨bp, op, hA, hbp, hc⟩ := (Reads.of_own hR.pcs).addr (by omega)
    have hpc := hc 3 (.string ps[3]) (by simp [strs, hp3])
    have hT : Hid (res = if wordP proW ps[3] = 0 then none else (edgePairs (ps.drop 4) (List.replicate 4 0) (List.replicate 16 0)).map fun mo => { x with edges := x.edges ++ [⟨a1, a2, wordP proW ps[3], mo.2, mo.1⟩] }) := by
      show _ = _
      rw [← hep]
      unfold edgeP
      rw [h1, h2, show ps.getD 3 { data := #[] } = ps[3] by simp [List.getD, hp3]]
      show Option.map _ (if _ then _ else _) = _
      by_cases h0 : wordP proW ps[3] = 0
      · rw [if_neg (by rintro ⟨_, h⟩; exact h h0), if_pos h0]; rfl
      · rw [if_pos ⟨h4, h0⟩, if_neg h0]
        cases edgePairs (ps.drop 4) (List.replicate 4 0) (List.replicate 16 0) <;> rfl
    have hcap := own_cap hR.pcs
    have q5 : ¬ (ps.length : Int) < 4 := by omega
    have p3 : (3 : Int) < (ps.length : Int) := by omega
    subst hA
    have HF : Hid (∀ w', Keep [] w w' → w'.cell? ⟨R, 4, none⟩ = some (.slice (some ⟨bp, op, none⟩) ps.length cc) ∧ w'.cell? ⟨bp, op + 3, none⟩ = some (.string ps[3])) := fun w' k =>
      ⟨(hR.blk.keep0 k).cell 4, (k.cell (p := ⟨bp, op + 3, none⟩) hbp (by simp)).trans hpc⟩
    clear hR hep h1 h2 hc hpc
    generalize ps[3] = p3' at *
    go_enter Try.func71, Try.ntmps71
    go_wp2_with fail
    refine HN1.out.mono ?_
    rintro e w1 ⟨rfl, rfl⟩
    go_wp2_with fail
    refine HN2.out.mono ?_
    rintro e w1 ⟨rfl, rfl⟩
    go_wp2_with (refine stop_store 76 (.tmp 7) (.tmp 37) rfl ?_)
    constructor
    refine wpList_store_all rfl 76 (.tmp 7) (.tmp 37) rfl rfl rfl (vs := edgCells ⟨a1, a2, 0, List.replicate 16 0, List.replicate 4 0⟩) agg_edge.2 (Blk.new _ _ _) (iv_one _) rfl ?_
    intro w1 d1 k1
    have kr1 : Keep [] w w1 := ((Keep.refl [] w).alloc _).trans k1 (fun y hy h => by simp at hy h; omega)
    obtain ⟨g, hg⟩ : ∃ g, g = w.heap.size := ⟨_, rfl⟩
    have hgg : w.heap.size ≤ g := by omega
    rw [← hg] at d1 ⊢
    have HD1 := Lib.hid d1
    have HK1 := Lib.hid kr1
    have HG := Lib.hid hg
    clear d1 k1 kr1 hg
    go_wp2
    (try rw [← HG.out])
    go_loopw [8] (fun v8 wr => ∃ k : Nat, 1 ≤ k ∧ k ≤ 4 ∧ v8 = .int .i64 (k : Int) ∧ Blk wr g 76 (edgCells ⟨a1, a2, protU p3' k, List.replicate 16 0, List.replicate 4 0⟩).toArray ∧ Keep [] w wr) (fun v8 _ => 4 - (intOf v8).toNat)
    case atStart => exact ⟨1, by decide, by decide, rfl, by (have e : protU p3' 1 = 0 := by (simp only [protU]; split <;> rfl)); rw [e]; exact HD1.out, HK1.out⟩
    case round =>
      obtain ⟨k, hk1, hk4, rfl, hbt, hkw⟩ := hrel
      have HKW := Lib.hid hkw
      have HBT := Lib.hid hbt
      by_cases hk3 : k ≤ 3
      · have HPO := fun W => Lib.hid (protocol_any (k : Int) W)
        have p5 : (k : Int) ≤ 3 := by omega
        have HIF : Hid (∀ w', Keep [] wr w' → w'.cell? ⟨R, 4, none⟩ = some (.slice (some ⟨bp, op, none⟩) ps.length cc) ∧ w'.cell? ⟨bp, op + 3, none⟩ = some (.string p3')) := fun w' kk => HF.out w' (hkw.then kk)
        clear hkw hbt
        go_wp2
        have hF := HIF.out
        refine wp_region_flow (Keep [] wr) rfl (by kernel_rfl) (Keep.refl _ _).drew ?_
        repeat (refine fl_val (v := ?_) (by rfl) ?_ ?_; rotate_left; (intro w' hS; obtain ⟨f1,f2⟩ := hF w' hS; go_simp; with_reducible rfl); simp only [Act.put, List.setIfInBounds_toArray, List.set_cons_zero, List.set_cons_succ])
        refine fl_call (f := 41) (v := strOf (proW k)) (by rfl) rfl (by simp only [List.map_toArray, List.map_cons, List.map_nil]; rfl) Try.func41 (by kernel_rfl) (by kernel_rfl) (fun w' hS => (HPO w').out.mono fun e w'' hh => ⟨hh.1, hS.then hh.2⟩) ?_; simp only [Act.put, List.setIfInBounds_toArray, List.set_cons_zero, List.set_cons_succ]
        repeat (refine fl_val (v := ?_) (by rfl) ?_ ?_; rotate_left; (intro w' hS; obtain ⟨f1,f2⟩ := hF w' hS; go_simp; with_reducible rfl); simp only [Act.put, List.setIfInBounds_toArray, List.set_cons_zero, List.set_cons_succ])
        refine fl_val (by rfl) (fun w' _ => exec_same rfl rfl w') ?_
        simp only [Act.put, List.setIfInBounds_toArray, List.set_cons_zero, List.set_cons_succ]
        refine fl_nil ?_
        intro w4 hS
        have HK4 := Lib.hid (HKW.out.then hS)
        have HB4 := Lib.hid (HBT.out.keep0 hS)
        clear hF hS
        by_cases heq : bytesOf p3' = proW k
        · have hd : decide (bytesOf p3' = proW k) = true := decide_eq_true heq
          rw [hd]
          have hpu : Hid (protU p3' (k + 1) = (k : Int)) := by show _ = _; rw [protU, if_pos heq]
          have f0 := HB4.out.frozen 2
          have t0 : w4.cell? ⟨g, 2, none⟩ = some (.int .i64 (protU p3' k)) := HB4.out.cell 2
          have hB5 : Hid (Blk (w4.setCell ⟨g, 2, none⟩ (.int .i64 (k : Int))) g 76 (edgCells ⟨a1, a2, protU p3' (k + 1), List.replicate 16 0, List.replicate 4 0⟩).toArray) := by
            show Blk _ _ _ _
            rw [hpu.out, ← edg_setp a1 a2 (protU p3' k)]
            exact HB4.out.set_ 2 _
          have hK5 : Hid (Keep [] w (w4.setCell ⟨g, 2, none⟩ (.int .i64 (k : Int)))) := HK4.out.setCell (fun h => by dsimp only at h; omega) _
          clear hd heq hpu
          go_wp2
          go_roundw
          case rel => exact ⟨k + 1, by omega, by omega, by go_num, hB5.out, hK5.out⟩
          case measure => simp [intOf]; omega
        · have hd : decide (bytesOf p3' = proW k) = false := decide_eq_false heq
          rw [hd]
          have hpu : Hid (protU p3' (k + 1) = protU p3' k) := by show _ = _; rw [protU, if_neg heq]
          clear hd heq
          go_wp2
          go_roundw
          case rel => exact ⟨k + 1, by omega, by omega, by go_num, by rw [hpu.out]; exact HB4.out, HK4.out⟩
          case measure => simp [intOf]; omega
      · obtain rfl : k = 4 := by omega
        rw [protU_four] at HBT
        have hRw := HR.out.keep0 hkw
        have q4' := hRw.blk.cell 4
        have p4 : (4 : Int) ≤ (ps.length : Int) := by omega
        have p6 : (ps.length : Int) ≤ (cc : Int) := by omega
        have hcc : cc = 4 ∨ cc ≠ 4 := by omega
        clear hbt hRw hk1 hk4 hk3 p3 q5
        generalize wordP proW p3' = pw at *
        rcases hcc with hcc | hcc
        case' inl =>
          have hc0 : cc - 4 = 0 := by omega
          have HRD : ∀ W, Keep [] w W → Hid (Reads W 1 (some ⟨bp, op, none⟩) (ps.length - 4) (strs (ps.drop 4))) := fun W k => reads_drop (Reads.of_own (HR.out.keep0 k).pcs) h4 (by omega)
          clear hcc
          go_wp2
          have hcc : cc ≠ 5000000 := by omega
        case' inr =>
          have HRD : ∀ W, Keep [] w W → Hid (Reads W 1 (some ⟨bp, op + 4, none⟩) (ps.length - 4) (strs (ps.drop 4))) := fun W k => reads_drop' (Reads.of_own (HR.out.keep0 k).pcs) h4
          go_wp2
        all_goals
          have hz4 : ∀ p ∈ ps.drop 4, p.size ≤ 1000000 := fun p hp => hz p (List.mem_of_mem_drop hp)
          have hd4 : (ps.drop 4).length = ps.length - 4 := by simp
          generalize hqs : ps.drop 4 = qs at *
          obtain ⟨n4, hn4⟩ : ∃ n4, n4 = ps.length - 4 := ⟨_, rfl⟩
          rw [← hn4] at HRD hd4 ⊢
          have HKW4 := Lib.hid HKW.out
          have hn9 : n4 ≤ 1000001 := by omega
          have HNN := Lib.hid hn4
          have HQS := Lib.hid hqs
          clear hn4 hqs q4 q4' hcap p4 p6 hkw hcc h4
          generalize wr = wo at *
          rw [show ((4 : Nat) : Int) = 4 from rfl]
          go_loopw [59] (fun v59 wr => ∃ (k : Nat) (mp offs : List Int), k ≤ n4 ∧ v59 = .int .i64 (k : Int) ∧ edgePairs qs (List.replicate 4 0) (List.replicate 16 0) = edgePairs (qs.drop k) mp offs ∧ mp.length = 4 ∧ offs.length = 16 ∧ Blk wr g 76 (edgCells ⟨a1, a2, pw, offs, mp⟩).toArray ∧ Keep [] w wr) (fun v59 _ => n4 - (intOf v59).toNat)
          case atStart => exact ⟨0, _, _, Nat.zero_le _, rfl, rfl, rfl, rfl, HBT.out, HKW4.out⟩
          case round =>
            obtain ⟨k, mp, offs, hk, rfl, hpp, hlm, hlo, hbt, hkw⟩ := hrel
            have HKW := Lib.hid hkw
            have HBT2 := Lib.hid hbt
            by_cases hlt : k < n4
            · obtain ⟨bq, oq, hA, hbq, hc⟩ := (HRD _ hkw).out.addr (by omega)
              have hkq : k < qs.length := by omega
              have qc := hc k (.string qs[k]) (by simp [strs, hkq])
              have hpq : Hid (edgePairs qs (List.replicate 4 0) (List.replicate 16 0) = match pairP 62 qs[k] mp with | some m' => edgePairs (qs.drop (k + 1)) m' offs | none => match pairP 58 qs[k] offs with | some o' => edgePairs (qs.drop (k + 1)) mp o' | none => none) := by show _ = _; rw [hpp, List.drop_eq_getElem_cons hkq]; rfl
              have hq6 := hz4 qs[k] (List.getElem_mem hkq)
              have HPM := Lib.hid (pair_any12 qs[k] 62 g 19 76 _ mp wr (edg_inm hbt hlo) hq6 (by omega))
              have HPO := Lib.hid (pair_any12 qs[k] 58 g 3 76 _ offs wr (edg_ino hbt) hq6 (by omega))
              rw [hlm] at HPM
              rw [hlo] at HPO
              have p0 : (0 : Int) ≤ (k : Int) := by omega
              have p1 : (k : Int) < (n4 : Int) := by omega
              clear hc hpp hbt hkw
              (try rw [hA])
              have HA := Lib.hid hA
              clear hA
              generalize qs[k] = q at *
              cases hpm : pairP 62 q mp with
              | some m2 =>
                rw [hpm] at HPM hpq
                have hl2 : m2.length = 4 := (pairP_len hpm).trans hlm
                have hE : Hid (edgePairs qs (List.replicate 4 0) (List.replicate 16 0) = edgePairs (qs.drop (k + 1)) m2 offs) := hpq.out
                clear hpm hpq
                go_wp2_with fail
                refine HPM.out.mono ?_
                rintro e w5 ⟨rfl, _, he5⟩
                obtain ⟨j, n, hj, e5, rfl⟩ := he5 m2 rfl
                have hB5 : Hid (Blk (wr.setCell ⟨g, 19 + j, none⟩ (.int .i64 n)) g 76 (edgCells ⟨a1, a2, pw, offs, m2⟩).toArray) := by
                  show Blk _ _ _ _
                  rw [e5, ← edg_setm _ _ _ _ _ _ _ hlo]
                  exact HBT2.out.set_ (19 + j) _
                have hK5 : Hid (Keep [] w (wr.setCell ⟨g, 19 + j, none⟩ (.int .i64 n))) := HKW.out.setCell (fun h => by dsimp only at h; omega) _
                clear e5 hj
                go_wp2
                (try rw [← HA.out])
                go_roundw
                case rel => exact ⟨k + 1, m2, offs, by omega, by go_num, hE.out, hl2, hlo, hB5.out, hK5.out⟩
                case measure => simp [intOf]; omega
              | none =>
                rw [hpm] at HPM hpq
                cases hpo : pairP 58 q offs with
                | some o2 =>
                  rw [hpo] at HPO hpq
                  have hl2 : o2.length = 16 := (pairP_len hpo).trans hlo
                  have hE : Hid (edgePairs qs (List.replicate 4 0) (List.replicate 16 0) = edgePairs (qs.drop (k + 1)) mp o2) := hpq.out
                  clear hpm hpo hpq
                  go_wp2_with fail
                  refine HPM.out.mono ?_
                  rintro e w5 ⟨rfl, he5, _⟩
                  obtain rfl := he5 trivial
                  go_wp2_with fail
                  refine HPO.out.mono ?_
                  rintro e w5 ⟨rfl, _, he5⟩
                  obtain ⟨j, n, hj, e5, rfl⟩ := he5 o2 rfl
                  have hB5 : Hid (Blk (wr.setCell ⟨g, 3 + j, none⟩ (.int .i64 n)) g 76 (edgCells ⟨a1, a2, pw, o2, mp⟩).toArray) := by
                    show Blk _ _ _ _
                    rw [e5, ← edg_seto _ _ _ _ _ _ _ (by omega)]
                    exact HBT2.out.set_ (3 + j) _
                  have hK5 : Hid (Keep [] w (wr.setCell ⟨g, 3 + j, none⟩ (.int .i64 n))) := HKW.out.setCell (fun h => by dsimp only at h; omega) _
                  clear e5 hj
                  go_wp2
                  (try rw [← HA.out])
                  go_roundw
                  case rel => exact ⟨k + 1, mp, o2, by omega, by go_num, hE.out, hlm, hl2, hB5.out, hK5.out⟩
                  case measure => simp [intOf]; omega
                | none =>
                  rw [hpo] at HPO hpq
                  have hTN : Hid (res = none) := by
                    show _ = _
                    rw [hT.out, hpq.out]
                    split <;> rfl
                  clear hpm hpo hpq
                  go_wp2_with fail
                  refine HPM.out.mono ?_
                  rintro e w5 ⟨rfl, he5, _⟩
                  obtain rfl := he5 trivial
                  go_wp2_with fail
                  refine HPO.out.mono ?_
                  rintro e w5 ⟨rfl, he5, _⟩
                  obtain rfl := he5 trivial
                  go_wp2
                  go_ret
                  rw [hTN.out]
                  exact ⟨rfl, Chg.of0 HKW.out, fun y hy => (by cases hy)⟩
            · have hTS : Hid (res = if pw = 0 then none else some { x with edges := x.edges ++ [⟨a1, a2, pw, offs, mp⟩] }) := by
                show _ = _
                rw [hT.out, hpp, List.drop_eq_nil_iff.2 (by omega)]
                rfl
              have hRw := HR.out.keep0 hkw
              have hgr : g ∉ ve.ownBlock.toList := fun hm => by have := row_lt HR.out.own.edges _ hm; omega
              have hnR : R ∉ ve.ownBlock.toList := fun hm => unown_ne hRw.own.edges hRw.blk (by decide) (by simpa using hm)
              have hG : ∀ w', Keep ve.ownBlock.toList wr w' → w'.cell? ⟨R, 3, none⟩ = some ve ∧ CellsAt w' g 0 (edgCells ⟨a1, a2, pw, offs, mp⟩) := fun w' k => ⟨(hRw.blk.keep k hnR).cell 3, (hbt.keep k hgr).cellsAt⟩
              have hnp : g ≠ R := fun e => by have := HR.out.blk.lt; omega
              have HRW := Lib.hid hRw
              have HNR := Lib.hid hnR
              have HGR := Lib.hid hgr
              have hgw := hbt.lt
              have hbR := hRw.le
              have hRl := hRw.blk.lt
              have htc : Hid ((edgCells ⟨a1, a2, pw, offs, mp⟩).length = 23) := edgCells_len hlo hlm
              have hone2 : ∀ u ∈ edgCells ⟨a1, a2, pw, offs, mp⟩, u.oneCell' = true := iv_one (edgInts ⟨a1, a2, pw, offs, mp⟩)
              have htk : (⟨a1, a2, pw, offs, mp⟩ : Edg).offs.length = 16 ∧ (⟨a1, a2, pw, offs, mp⟩ : Edg).mp.length = 4 := ⟨hlo, hlm⟩
              have htp : (⟨a1, a2, pw, offs, mp⟩ : Edg).prot = pw := rfl
              have ht2 : (edgCells ⟨a1, a2, pw, offs, mp⟩)[2]? = some (.int .i64 pw) := rfl
              clear hpp hkw hRw hnR hgr hbt
              generalize htt : (⟨a1, a2, pw, offs, mp⟩ : Edg) = t at *
              go_wp2
              refine ap_begin 12 (Keep ve.ownBlock.toList wr) rfl (Keep.refl _ _).drew (fun hS hPan => ?_) (fun _ _ d _ _ h => by cases d <;> exact h)
              (refine ap_val (v := ?_) 0 rfl (by kernel_rfl) (by kernel_rfl) (by kernel_rfl) (by kernel_rfl) (by rfl) hPan ?_ hS ?_; rotate_left; (intro w' hSw; go_simp; try with_reducible rfl); simp only [Act.put, List.setIfInBounds_toArray, List.set_cons_zero, List.set_cons_succ])
              (refine ap_val (v := ?_) 1 rfl (by kernel_rfl) (by kernel_rfl) (by kernel_rfl) (by kernel_rfl) (by rfl) hPan ?_ hS ?_; rotate_left; (intro w' hSw; go_simp; try with_reducible rfl); simp only [Act.put, List.setIfInBounds_toArray, List.set_cons_zero, List.set_cons_succ])
              (refine ap_val (v := ?_) 2 rfl (by kernel_rfl) (by kernel_rfl) (by kernel_rfl) (by kernel_rfl) (by rfl) hPan ?_ hS ?_; rotate_left; (intro w' hSw; go_simp; try with_reducible rfl); simp only [Act.put, List.setIfInBounds_toArray, List.set_cons_zero, List.set_cons_succ])
              (refine ap_val (v := ?_) 3 rfl (by kernel_rfl) (by kernel_rfl) (by kernel_rfl) (by kernel_rfl) (by rfl) hPan ?_ hS ?_; rotate_left; (intro w' hSw; go_simp; try with_reducible rfl); simp only [Act.put, List.setIfInBounds_toArray, List.set_cons_zero, List.set_cons_succ])
              (refine ap_val (v := ?_) 4 rfl (by kernel_rfl) (by kernel_rfl) (by kernel_rfl) (by kernel_rfl) (by rfl) hPan ?_ hS ?_; rotate_left; (intro w' hSw; go_simp; try with_reducible rfl); simp only [Act.put, List.setIfInBounds_toArray, List.set_cons_zero, List.set_cons_succ])
              (refine ap_val (v := ?_) 5 rfl (by kernel_rfl) (by kernel_rfl) (by kernel_rfl) (by kernel_rfl) (by rfl) hPan ?_ hS ?_; rotate_left; (intro w' hSw; obtain ⟨f1,f2⟩ := hG w' hSw; go_simp; try with_reducible rfl); simp only [Act.put, List.setIfInBounds_toArray, List.set_cons_zero, List.set_cons_succ])
              refine ap_agg 6 76 (.tmp 7) (edgCells t) rfl (by kernel_rfl) (by kernel_rfl) (by kernel_rfl) (by kernel_rfl) (by rfl) hPan rfl rfl (by rw [htc.out]; exact agg_edge) (fun w' h => (hG w' h).2) hS ?_
              (simp only [Act.put, List.setIfInBounds_toArray, List.set_cons_zero, List.set_cons_succ])
              have kA : Keep [] wr (wr.drew.alloc (.cells (edgCells t).toArray 76)) := (Keep.refl [] wr).drew.alloc _
              have DA : CellsAt (wr.drew.alloc (.cells (edgCells t).toArray 76)) wr.heap.size 0 (edgCells t) := (Blk.new wr.drew 76 (edgCells t).toArray).cellsAt
              refine ap_one 7 (by kernel_rfl) ?_
              refine op_run (v := .slice (some ⟨wr.heap.size, 0, none⟩) 1 1) (w' := wr.drew.alloc (.cells (edgCells t).toArray 76)) 7 rfl (by rfl) (exec_slice_one slice_edge htc.out (by decide) rfl _) ?_
              refine ⟨fun _ => hS.alloc _, ?_⟩
              replace hS := hS.alloc (.cells (edgCells t).toArray 76)
              (simp only [Act.put, List.setIfInBounds_toArray, List.set_cons_zero, List.set_cons_succ])
              have OA := own_keep0 HRW.out.own.edges kA
              have hOA := HRW.out.keep0 kA
              generalize wr.drew.alloc (.cells (edgCells t).toArray 76) = w3 at *
              have h63 := kA.size
              refine ap_one 8 (by kernel_rfl) ?_
              refine op_app 8 1 (.tmp 81) (.tmp 83) 24 rfl (by rfl) rfl slice_edge OA rfl rfl DA (by rw [htc.out]) hone2 (by omega) (by omega) (by unfold maxLen; omega) ?_
              intro v' w4 hown4 k4 _
              have hS4 : Keep ve.ownBlock.toList wr w4 := hS.trans k4 (fun x hx _ => hx)
              refine ⟨fun _ => hS4, ?_⟩
              (simp only [Act.put, List.setIfInBounds_toArray, List.set_cons_zero, List.set_cons_succ])
              replace hS := hS4
              (refine ap_val (v := ?_) 9 rfl (by kernel_rfl) (by kernel_rfl) (by kernel_rfl) (by kernel_rfl) (by rfl) hPan ?_ hS ?_; rotate_left; (intro w' hSw; go_simp; try with_reducible rfl); simp only [Act.put, List.setIfInBounds_toArray, List.set_cons_zero, List.set_cons_succ])
              (refine ap_val (v := ?_) 10 rfl (by kernel_rfl) (by kernel_rfl) (by kernel_rfl) (by kernel_rfl) (by rfl) hPan ?_ hS ?_; rotate_left; (intro w' hSw; go_simp; try with_reducible rfl); simp only [Act.put, List.setIfInBounds_toArray, List.set_cons_zero, List.set_cons_succ])
              (refine ap_val (v := ?_) 11 rfl (by kernel_rfl) (by kernel_rfl) (by kernel_rfl) (by kernel_rfl) (by rfl) hPan ?_ hS ?_; rotate_left; (intro w' hSw; go_simp; try with_reducible rfl); simp only [Act.put, List.setIfInBounds_toArray, List.set_cons_zero, List.set_cons_succ])
              have hb4 := hOA.blk.keep k4 HNR.out
              have ho4 := hOA.own.edge t htk k4 hown4
              have hp4 := own_keep hOA.pcs k4 (row_apart hOA.own.edges hOA.pcs (by decide))
              have HF4 := Lib.hid (RdrV.store (y := { x with edges := x.edges ++ [t] }) hb4 ho4 hp4 (Nat.le_trans hOA.le k4.size) 3 v' rfl)
              have HC4 : Hid (Chg b R imgUs w (w4.setCell ⟨R, 3, none⟩ v')) := by
                refine (Chg.of0 HKW.out).trans (HRW.out.chg (F := R :: ve.ownBlock.toList) ((hS4.mono (fun y hy _ => List.mem_cons_of_mem _ hy)).setCell (by simp) v') (fun y hy _ => ?_))
                rcases List.mem_cons.1 hy with hy | hy
                · exact .inl hy
                · exact .inr (.inr (.inr (.inl hy)))
              have hc9 : Hid ((w4.setCell ⟨R, 3, none⟩ v').cell? ⟨g, 2, none⟩ = some (.int .i64 pw)) := by
                have h1 := ((HBT2.out.keep hS4 HGR.out).far hnp v' (p := ⟨R, 3, none⟩)).cell 2
                exact h1.trans (by simpa using ht2)
              obtain ⟨A', c', rfl⟩ := own_shape hown4
              refine ap_one 12 (by kernel_rfl) ?_
              refine op_store1 (b := R) (f := 3) (v := .slice A' (x.edges.length + 1) c') 12 rfl (by rfl) rfl rfl rfl rfl rfl rfl (hb4.cell 3) (hb4.frozen 3) ?_
              refine ⟨fun h => (by cases h), ap_done (by kernel_rfl) ?_ _⟩
              (simp only [Act.put])
              clear hS hS4 hPan kA DA OA hOA hown4 k4 hb4 ho4 hp4 ht2 htp
              have hcell := hc9.out
              by_cases hpz : pw = 0
              · have q9 : (pw != 0) = false := by simp [hpz]
                have hTN : Hid (res = none) := by show _ = _; rw [hTS.out, if_pos hpz]
                clear hpz
                go_wp2
                go_ret
                rw [hTN.out]
                exact ⟨rfl, HC4.out, fun y hy => (by cases hy)⟩
              · have q9 : (pw != 0) = true := by simp [hpz]
                have hTN : Hid (res = some { x with edges := x.edges ++ [t] }) := by show _ = _; rw [hTS.out, if_neg hpz]
                clear hpz
                go_wp2
                go_ret
                rw [hTN.out]
                exact ⟨rfl, HC4.out, fun y hy => (by cases hy; exact ⟨_, _, _, _, HF4.out⟩)⟩
end Go.Proofs.Ytoepkhkaifgddaa
