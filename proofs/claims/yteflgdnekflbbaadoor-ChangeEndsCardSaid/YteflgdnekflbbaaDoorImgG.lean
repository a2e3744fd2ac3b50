/- May an edge be: the program's own test. -/
import Derived.Test.YteflgdnekflbbaaDoorImgP
namespace Go.Proofs.YteflgdnekflbbaaDoor
open Go.RowKit

theorem firstBad_le {α : Type} {ok : Nat → α → Bool} : ∀ (l : List α) (i j : Nat) (hj : j < l.length), (∀ m, ok m l[j] = false) → ∃ k, firstBad ok i l = some k ∧ k ≤ i + j
  | [], i, j, hj, _ => by simp at hj
  | a :: l, i, j, hj, h => by
    rw [firstBad]
    cases hi : ok i a
    · exact ⟨i, by simp, by omega⟩
    · cases j with
      | zero => have := h i; simp at this; rw [this] at hi; cases hi
      | succ j =>
        obtain ⟨k, h1, h2⟩ := firstBad_le l (i + 1) j (by simpa using hj) (fun m => by simpa using h m)
        exact ⟨k, by simpa using h1, by omega⟩
theorem firstBad_none {α : Type} {p : α → Bool} : ∀ (l : List α) (i : Nat), (firstBad (fun _ a => p a) i l = none) ↔ l.all p = true
  | [], i => by simp [firstBad]
  | a :: l, i => by
    rw [firstBad, List.all_cons]
    cases hp : p a
    · simp
    · simpa using firstBad_none l (i + 1)
theorem edgeAt_self (es : List Edg) (i : Nat) (hi : i < es.length) : ∃ k, edgeAt es es[i].frm es[i].to = some k ∧ k ≤ i ∧ ((k = i) ↔ (es.take i).all (fun f => !(f.frm == es[i].frm && f.to == es[i].to)) = true) := by
  obtain ⟨k, hk, hle⟩ := firstBad_le (ok := edgeIs es[i].frm es[i].to) es 0 i hi (fun m => by simp [edgeIs])
  refine ⟨k, hk, by omega, ?_⟩
  rw [← firstBad_none (p := fun f => !(f.frm == es[i].frm && f.to == es[i].to)) (es.take i) 0]
  have hk' : firstBad (edgeIs es[i].frm es[i].to) 0 es = some k := hk
  constructor
  · rintro rfl
    rcases hq : firstBad (edgeIs es[k].frm es[k].to) 0 (es.take k) with _ | j
    · exact hq
    · have h2 := firstBad_append (edgeIs es[k].frm es[k].to) (es.take k) (es.drop k) 0
      rw [List.take_append_drop, hq, hk'] at h2
      obtain rfl : k = j := by simpa using h2
      have hlt : ∀ (l : List Edg) (i j : Nat), firstBad (edgeIs es[k].frm es[k].to) i l = some j → j < i + l.length := by
        intro l
        induction l with
        | nil => intro i j h; simp [firstBad] at h
        | cons a l ih =>
          intro i j h
          rw [firstBad] at h
          split at h
          · have := ih _ _ h; simp; omega
          · simp at h; simp; omega
      have := hlt _ _ _ hq
      simp at this
      omega
  · intro h
    have h2 := firstBad_at (edgeIs es[i].frm es[i].to) hi h (by simp [edgeIs])
    rw [hk'] at h2
    simpa using h2

theorem mode_getD (x : Img) (m : Int) (h0 : 0 ≤ m) (h : m < x.modes.length) : x.modes.getD m.toNat ⟨0, []⟩ = x.modes[m.toNat]'(by omega) := by
  rw [List.getD_eq_getElem?_getD, List.getElem?_eq_getElem (by omega)]; rfl

set_option maxRecDepth 100000 in
set_option maxHeartbeats 2000000 in
theorem edgeOk_any (v : ImgV) (x : Img) (i : Nat) (w : World) (h : ImgAt w v x) (hi : i < x.edges.length) (hq : ∀ m ∈ x.modes, m.qs.length ≤ 31) (hnm : x.modes.length ≤ 100) :
    Calls Tryd.prog 38 #[.agg (imgCells v x).toArray, .int .i64 (i : Int)] w fun e w' => e = .returned (.bool (edgOk x i x.edges[i])) ∧ Keep [] w w' := by
  have hle := h.le
  unfold maxLen at hle
  have hb := img_box w v x
  have K0 := (Keep.refl [] w).alloc (.cells (imgCells v x).toArray 26)
  have c3 := img_c3 hb
  have c2 := img_c2 hb
  obtain ⟨b, o, hA, hbl, hcs⟩ := h.edge (by omega)
  have hce := (hcs i hi).keep0 K0 hbl
  have hofs := h.ok.offs _ (List.getElem_mem hi)
  have hmps := h.ok.mp _ (List.getElem_mem hi)
  have hlen : (edgCells x.edges[i]).length = 23 := edgCells_len hofs hmps
  have HL := Lib.hid hlen
  have hone : ∀ u ∈ edgCells x.edges[i], u.oneCell' = true := iv_one _
  have e0 := edg_c x.edges[i] 0 (by simp [edgInts])
  have e1 := edg_c x.edges[i] 1 (by simp [edgInts])
  have e2 := edg_c x.edges[i] 2 (by simp [edgInts])
  simp only [edgInts, List.getElem_cons_zero, List.getElem_cons_succ] at e0 e1 e2
  obtain ⟨kk, hkk, hkle, hkiff⟩ := edgeAt_self x.edges i hi
  have HE := fun W hk => Lib.hid (edge_any v x x.edges[i].frm x.edges[i].to W (h.keep0 hk))
  have HR : Hid (edgeRes (edgeAt x.edges x.edges[i].frm x.edges[i].to) = .tuple #[.int .i64 (kk : Int), .bool true]) := by show _ = _; rw [hkk]; rfl
  have HTs := fun m W hk => Lib.hid (tasks_any v x m W (h.keep0 hk))
  have HIL : Hid ((imgCells v x).length = 4) := show _ = _ from rfl
  have hbo := Lib.hid hb
  have hst0 := setOf10_lt x x.edges[i].frm h.ok
  have hst1 := setOf10_lt x x.edges[i].to h.ok
  have HOK : Hid (edgOk x i x.edges[i] = (inR x.edges[i].frm 0 (x.modes.length - 1) && inR x.edges[i].to 0 (x.modes.length - 1) && decide (x.edges[i].frm ≠ x.edges[i].to) && inR x.edges[i].prot 1 3 && decide (kk = i) &&
      mapsOk (x.modes.getD x.edges[i].frm.toNat ⟨0, []⟩).qs.length (x.modes.getD x.edges[i].to.toNat ⟨0, []⟩).qs.length 0 [] x.edges[i].mp &&
      offsOk x.edges[i].prot (x.modes.getD x.edges[i].frm.toNat ⟨0, []⟩).set (x.modes.getD x.edges[i].to.toNat ⟨0, []⟩).set 0 x.edges[i].offs)) := by
    show _ = _
    have : (x.edges.take i).all (fun f => !(f.frm == x.edges[i].frm && f.to == x.edges[i].to)) = decide (kk = i) := by
      rw [Bool.eq_iff_iff, decide_eq_true_eq, hkiff]
    rw [edgOk, this]
  have hcm := h.mode
  have hgd := mode_getD x
  have hso : ∀ m : Int, 0 ≤ m → m < x.modes.length → setOf10 x m = (x.modes.getD m.toNat ⟨0, []⟩).set := fun m h0 h1 => by unfold setOf10; rw [if_pos ⟨h0, h1⟩]
  clear hcs hkk hkiff hb hlen
  have hmo := Lib.hid hofs
  have hmm := Lib.hid hmps
  clear hofs hmps
  rw [hA] at c3
  have HO := fun fr W hfr => Lib.hid (offsets_any x.edges[i] fr W hmo.out hfr)
  have HM := fun frm to W hto => Lib.hid (maps_any x.edges[i].mp frm to W hmm.out hto)
  have hoff := Lib.hid (fun (W : World) g ty (hB : Blk W g ty (edgCells x.edges[i]).toArray) => edg_mpAt hmo.out hB)
  have HFE := fun a b ha hb => Lib.hid (offsF_eq x.edges[i].prot a b ha hb x.edges[i].offs 0)
  generalize edgOk x i x.edges[i] = r at *
  generalize x.edges[i] = e at *
  generalize edgCells e = ec at *
  generalize imgCells v x = il at *
  generalize e.frm = fr at *
  generalize e.to = to at *
  generalize e.prot = pr at *
  generalize e.mp = mp at *
  generalize e.offs = ofs at *
  generalize edgeRes (edgeAt x.edges fr to) = er at *
  have hcase : (r = false ∧ fr < 0) ∨ (r = false ∧ 0 ≤ fr ∧ (x.modes.length : Int) ≤ fr) ∨ (r = false ∧ 0 ≤ fr ∧ fr < x.modes.length ∧ to < 0) ∨ (r = false ∧ 0 ≤ fr ∧ fr < x.modes.length ∧ 0 ≤ to ∧ (x.modes.length : Int) ≤ to) ∨
      (r = false ∧ 0 ≤ fr ∧ fr < x.modes.length ∧ 0 ≤ to ∧ to < x.modes.length ∧ (fr == to) = true) ∨ (r = false ∧ 0 ≤ fr ∧ fr < x.modes.length ∧ 0 ≤ to ∧ to < x.modes.length ∧ (fr == to) = false ∧ pr < 1) ∨
      (r = false ∧ 0 ≤ fr ∧ fr < x.modes.length ∧ 0 ≤ to ∧ to < x.modes.length ∧ (fr == to) = false ∧ 1 ≤ pr ∧ 3 < pr) ∨ (0 ≤ fr ∧ fr < x.modes.length ∧ 0 ≤ to ∧ to < x.modes.length ∧ (fr == to) = false ∧ 1 ≤ pr ∧ pr ≤ 3) := by
    rw [HOK.out]
    unfold inR
    simp only [beq_iff_eq, beq_eq_false_iff_ne, Bool.and_eq_false_iff, decide_eq_false_iff_not]
    omega
  rcases hcase with ⟨h0, h1⟩ | ⟨h0, h1, h2⟩ | ⟨h0, h1, h2, h3⟩ | ⟨h0, h1, h2, h3, h4⟩ | ⟨h0, h1, h2, h3, h4, h5⟩ | ⟨h0, h1, h2, h3, h4, h5, h6⟩ | ⟨h0, h1, h2, h3, h4, h5, h6, h7⟩ | ⟨h1, h2, h3, h4, h5, h6, h7⟩
  iterate 7
    · have HF := Lib.hid h0
      clear h0 HE HTs HO HM hoff HFE hcm hgd hso
      go_enter Tryd.func38, Tryd.ntmps38
      go_wp2_with (first
        | (refine wpList_load_agg rfl 93 (.tmp 11) rfl rfl (cs := ec) (by rw [HL.out]; exact agg_edge) hce ?_)
        | (refine stop_store 93 (.tmp 5) (.tmp 12) rfl ?_))
      constructor
      refine wpList_store_all rfl 93 (.tmp 5) (.tmp 12) rfl rfl rfl (vs := ec) (by rw [HL.out]; exact agg_edge.2) (Blk.new1 _ _ _ _) hone (by rw [HL.out]; rfl) ?_
      intro w2 hb2 hk2
      have q0 := hb2.at_ e0
      have q1 := hb2.at_ e1
      have q2 := hb2.at_ e2
      have KK := ((Keep.refl [w.heap.size + 1] (w.alloc (.cells il.toArray 26))).alloc _).trans hk2 (fun y hy _ => by simpa using hy)
      have q3 := (KK.cell (p := ⟨w.heap.size, 2, none⟩) (by simp) (by simp)).trans c2
      clear KK
      have hk3 := (K0.alloc _).trans hk2 (fun y hy h => by simp at hy; omega)
      clear hb2 hk2 hce
      go_wp2
      go_ret
      exact ⟨by rw [HF.out]; rfl, hk3⟩
  obtain ⟨fk, rfl⟩ : ∃ fk : Nat, fr = (fk : Int) := ⟨fr.toNat, by omega⟩
  obtain ⟨tk, rfl⟩ : ∃ tk : Nat, to = (tk : Int) := ⟨to.toNat, by omega⟩
  have hfk : fk < x.modes.length := by omega
  have htk : tk < x.modes.length := by omega
  obtain ⟨bm, om, hMA, hbm, hms⟩ := hcm (by omega)
  obtain ⟨A1, c1, m1, _⟩ := hms fk hfk
  obtain ⟨A2, c2', m2, _⟩ := hms tk htk
  have m1c := m1 1 _ rfl
  have m2c := m2 1 _ rfl
  clear hms m1 m2
  have hq2 := hq _ (List.getElem_mem htk)
  have hq1 := hq _ (List.getElem_mem hfk)
  have g1 := hgd fk h1 h2
  have g2 := hgd tk h3 h4
  have s1 := hso fk h1 h2
  have s2 := hso tk h3 h4
  rw [Int.toNat_natCast] at s1 s2
  simp only [Int.toNat_natCast] at g1 g2 HOK
  have HOK2 : Hid (r = (decide (kk = i) && mapsOk x.modes[fk].qs.length x.modes[tk].qs.length 0 [] mp && offsF pr (minusN (setOf10 x tk) (setOf10 x fk)) 0 ofs)) := by
    show _ = _
    have i1 : inR (fk : Int) 0 (x.modes.length - 1) = true := by unfold inR; simp; omega
    have i2 : inR (tk : Int) 0 (x.modes.length - 1) = true := by unfold inR; simp; omega
    have i3 : decide ((fk : Int) ≠ tk) = true := by simpa using h5
    have i4 : inR pr 1 3 = true := by unfold inR; simp; omega
    rw [HOK.out, i1, i2, i3, i4, g1, g2, (HFE _ _ hst0 hst1).out, s1, s2, g1, g2]
    simp only [Bool.true_and]
  rw [hMA] at c2
  have h5' : (fk == tk) = false := by have := h5; simp at this ⊢; omega
  clear HOK g1 g2 s1 s2 hgd hso HFE hq hcm
  have k1 : (0 : Int) ≤ (fk : Int) := by omega
  have k2 : (0 : Int) ≤ (tk : Int) := by omega
  have HT1 := fun W hk => HTs fk W hk
  have HT2 := fun W hk => HTs tk W hk
  clear HTs
  generalize x.modes[fk].qs.length = q1n at *
  generalize x.modes[tk].qs.length = q2n at *
  generalize setOf10 x fk = sf at *
  generalize setOf10 x tk = st at *
  by_cases hki : kk = i
  · have HR2 : Hid (r = (mapsOk q1n q2n 0 [] mp && offsF pr (minusN st sf) 0 ofs)) := by show _ = _; rw [HOK2.out]; simp [hki]
    have hne : ((kk : Int) != (i : Int)) = false := by simp; omega
    have hne' : (kk != i) = false := by simp; omega
    have hmp4 : Hid (mp.length = 4) := hmm.out
    have hand : bits .andNot .u32 (st : Int) (sf : Int) = ((minusN st sf : Nat) : Int) := u32_andNot_nat st sf hst1 hst0
    have hml := minusN_lt st sf hst1
    have HAND := Lib.hid hand
    clear HOK2 hki hand
    go_enter Tryd.func38, Tryd.ntmps38
    go_wp2_with (first
      | (refine wpList_load_agg rfl 93 (.tmp 11) rfl rfl (cs := ec) (by rw [HL.out]; exact agg_edge) hce ?_)
      | (refine stop_store 93 (.tmp 5) (.tmp 12) rfl ?_))
    constructor
    refine wpList_store_all rfl 93 (.tmp 5) (.tmp 12) rfl rfl rfl (vs := ec) (by rw [HL.out]; exact agg_edge.2) (Blk.new1 _ _ _ _) hone (by rw [HL.out]; rfl) ?_
    intro w2 hb2 hk2
    have q0 := hb2.at_ e0
    have q1 := hb2.at_ e1
    have q2 := hb2.at_ e2
    have KK := ((Keep.refl [w.heap.size + 1] (w.alloc (.cells il.toArray 26))).alloc _).trans hk2 (fun y hy _ => by simpa using hy)
    have q3 := (KK.cell (p := ⟨w.heap.size, 2, none⟩) (by simp) (by simp)).trans c2
    have BI := hbo.out.keep KK (by simp)
    have qI := Lib.hid BI.cellsAt
    have hk3 := (K0.alloc _).trans hk2 (fun y hy h => by simp at hy; omega)
    clear hk2 hce KK
    go_wp2_with (refine wpList_load_agg rfl 26 (.tmp 2) rfl rfl (cs := il) (by rw [HIL.out]; exact agg_image) qI.out ?_)
    refine (HE _ hk3).out.mono ?_
    rintro en w3 ⟨rfl, k3⟩
    rw [HR.out]
    have r0 := (k3.cell (p := ⟨w.heap.size + 1, 0, none⟩) hb2.lt (by simp)).trans q0
    have r1 := (k3.cell (p := ⟨w.heap.size + 1, 1, none⟩) hb2.lt (by simp)).trans q1
    have r3 := (k3.cell (p := ⟨w.heap.size, 2, none⟩) BI.lt (by simp)).trans q3
    have B5 := hb2.keep0 k3
    have BI3 := BI.keep0 k3
    have K3 := hk3.then k3
    have p1 := (K3.cell (p := ⟨bm, om + fk * 2 + 1, none⟩) hbm (by simp)).trans m1c
    have p2 := (K3.cell (p := ⟨bm, om + tk * 2 + 1, none⟩) hbm (by simp)).trans m2c
    have hF : ∀ w', Keep [] w3 w' → w'.cell? ⟨w.heap.size + 1, 0, none⟩ = some (.int .i64 fk) ∧ w'.cell? ⟨w.heap.size + 1, 1, none⟩ = some (.int .i64 tk) ∧ w'.cell? ⟨w.heap.size, 2, none⟩ = some (.slice (some ⟨bm, om, none⟩) x.modes.length v.mc) ∧
        w'.cell? ⟨bm, om + fk * 2 + 1, none⟩ = some (.slice A1 q1n c1) ∧ w'.cell? ⟨bm, om + tk * 2 + 1, none⟩ = some (.slice A2 q2n c2') := fun w' hw =>
      ⟨(hw.cell (p := ⟨w.heap.size + 1, 0, none⟩) B5.lt (by simp)).trans r0, (hw.cell (p := ⟨w.heap.size + 1, 1, none⟩) B5.lt (by simp)).trans r1, (hw.cell (p := ⟨w.heap.size, 2, none⟩) BI3.lt (by simp)).trans r3,
        (hw.cell (p := ⟨bm, om + fk * 2 + 1, none⟩) (Nat.lt_of_lt_of_le hbm K3.size) (by simp)).trans p1, (hw.cell (p := ⟨bm, om + tk * 2 + 1, none⟩) (Nat.lt_of_lt_of_le hbm K3.size) (by simp)).trans p2⟩
    clear r0 r1 r3 p1 p2 q0 q1 q2 q3 m1c m2c c2 c3 hb2 BI e0 e1 e2
    go_wp2
    cases hmo2 : mapsOk q1n q2n 0 [] mp
    · have HF : Hid (r = false) := by show _ = _; rw [HR2.out, hmo2]; rfl
      have HM2 := Lib.hid hmo2
      clear hmo2
      refine wp_region_flow (Keep [] w3) rfl (by kernel_rfl) (Keep.refl _ _).drew ?_
      (refine fl_val (v := ?_) (by rfl) ?_ ?_; rotate_left; (intro w' hS; obtain ⟨f1,f2,f3,f4,f5⟩ := hF w' hS; go_simp; with_reducible rfl); simp only [Act.put, List.setIfInBounds_toArray, List.set_cons_zero, List.set_cons_succ])
      refine fl_agg 91 (.tmp 66) (iv mp) rfl rfl rfl (by rw [List.length_map, hmp4.out]; exact agg_4) (fun w' hw => hoff.out _ _ _ (B5.keep0 hw)) ?_
      simp only [Act.put, List.setIfInBounds_toArray, List.set_cons_zero, List.set_cons_succ]
      repeat (refine fl_val (v := ?_) (by rfl) ?_ ?_; rotate_left; (intro w' hS; obtain ⟨f1,f2,f3,f4,f5⟩ := hF w' hS; go_simp; with_reducible rfl); simp only [Act.put, List.setIfInBounds_toArray, List.set_cons_zero, List.set_cons_succ])
      refine fl_call (f := 52) (v := .bool false) (by rfl) rfl (by simp only [List.map_toArray, List.map_cons, List.map_nil]; rfl) Tryd.func52 (by kernel_rfl) (by kernel_rfl) (fun w' hS => ((HM q1n q2n w' (by omega)).out.mono (fun e w'' h => ⟨by rw [h.1, HM2.out], hS.then h.2⟩))) ?_; simp only [Act.put, List.setIfInBounds_toArray, List.set_cons_zero, List.set_cons_succ]
      repeat (first | (refine fl_off (by rfl) ?_; simp only [Act.put, List.setIfInBounds_toArray, List.set_cons_zero, List.set_cons_succ]) | (refine fl_val (v := ?_) (by rfl) ?_ ?_; rotate_left; (intro w' hS; obtain ⟨f1,f2,f3,f4,f5⟩ := hF w' hS; go_simp; with_reducible rfl); simp only [Act.put, List.setIfInBounds_toArray, List.set_cons_zero, List.set_cons_succ]))
      refine fl_nil ?_
      intro w' hS
      go_wp2
      go_ret
      exact ⟨by rw [HF.out]; rfl, K3.then hS⟩
    · have HF : Hid (r = offsF pr (minusN st sf) 0 ofs) := by show _ = _; rw [HR2.out, hmo2]; rfl
      have HM2 := Lib.hid hmo2
      clear hmo2
      refine wp_region_flow (Keep [] w3) rfl (by kernel_rfl) (Keep.refl _ _).drew ?_
      (refine fl_val (v := ?_) (by rfl) ?_ ?_; rotate_left; (intro w' hS; obtain ⟨f1,f2,f3,f4,f5⟩ := hF w' hS; go_simp; with_reducible rfl); simp only [Act.put, List.setIfInBounds_toArray, List.set_cons_zero, List.set_cons_succ])
      refine fl_agg 91 (.tmp 66) (iv mp) rfl rfl rfl (by rw [List.length_map, hmp4.out]; exact agg_4) (fun w' hw => hoff.out _ _ _ (B5.keep0 hw)) ?_
      simp only [Act.put, List.setIfInBounds_toArray, List.set_cons_zero, List.set_cons_succ]
      repeat (refine fl_val (v := ?_) (by rfl) ?_ ?_; rotate_left; (intro w' hS; obtain ⟨f1,f2,f3,f4,f5⟩ := hF w' hS; go_simp; with_reducible rfl); simp only [Act.put, List.setIfInBounds_toArray, List.set_cons_zero, List.set_cons_succ])
      refine fl_call (f := 52) (v := .bool true) (by rfl) rfl (by simp only [List.map_toArray, List.map_cons, List.map_nil]; rfl) Tryd.func52 (by kernel_rfl) (by kernel_rfl) (fun w' hS => ((HM q1n q2n w' (by omega)).out.mono (fun e w'' h => ⟨by rw [h.1, HM2.out], hS.then h.2⟩))) ?_; simp only [Act.put, List.setIfInBounds_toArray, List.set_cons_zero, List.set_cons_succ]
      (refine fl_val (v := ?_) (by rfl) ?_ ?_; rotate_left; (intro w' hS; obtain ⟨f1,f2,f3,f4,f5⟩ := hF w' hS; go_simp; with_reducible rfl); simp only [Act.put, List.setIfInBounds_toArray, List.set_cons_zero, List.set_cons_succ])
      refine fl_agg 93 (.tmp 5) ec rfl rfl rfl (by rw [HL.out]; exact agg_edge) (fun w' hw => (B5.keep0 hw).cellsAt) ?_
      simp only [Act.put, List.setIfInBounds_toArray, List.set_cons_zero, List.set_cons_succ]
      refine fl_agg 26 (.tmp 2) il rfl rfl rfl (by rw [HIL.out]; exact agg_image) (fun w' hw => (BI3.keep0 hw).cellsAt) ?_
      simp only [Act.put, List.setIfInBounds_toArray, List.set_cons_zero, List.set_cons_succ]
      repeat (refine fl_val (v := ?_) (by rfl) ?_ ?_; rotate_left; (intro w' hS; obtain ⟨f1,f2,f3,f4,f5⟩ := hF w' hS; go_simp; with_reducible rfl); simp only [Act.put, List.setIfInBounds_toArray, List.set_cons_zero, List.set_cons_succ])
      refine fl_call (f := 27) (v := .int .u32 (st : Int)) (by rfl) rfl (by simp only [List.map_toArray, List.map_cons, List.map_nil]; rfl) Tryd.func27 (by kernel_rfl) (by kernel_rfl) (fun w' hS => ((HT2 w' (K3.then hS)).out.mono (fun e w'' h => ⟨h.1, hS.then h.2⟩))) ?_; simp only [Act.put, List.setIfInBounds_toArray, List.set_cons_zero, List.set_cons_succ]
      refine fl_agg 26 (.tmp 2) il rfl rfl rfl (by rw [HIL.out]; exact agg_image) (fun w' hw => (BI3.keep0 hw).cellsAt) ?_
      simp only [Act.put, List.setIfInBounds_toArray, List.set_cons_zero, List.set_cons_succ]
      repeat (refine fl_val (v := ?_) (by rfl) ?_ ?_; rotate_left; (intro w' hS; obtain ⟨f1,f2,f3,f4,f5⟩ := hF w' hS; go_simp; with_reducible rfl); simp only [Act.put, List.setIfInBounds_toArray, List.set_cons_zero, List.set_cons_succ])
      refine fl_call (f := 27) (v := .int .u32 (sf : Int)) (by rfl) rfl (by simp only [List.map_toArray, List.map_cons, List.map_nil]; rfl) Tryd.func27 (by kernel_rfl) (by kernel_rfl) (fun w' hS => ((HT1 w' (K3.then hS)).out.mono (fun e w'' h => ⟨h.1, hS.then h.2⟩))) ?_; simp only [Act.put, List.setIfInBounds_toArray, List.set_cons_zero, List.set_cons_succ]
      have hand := HAND.out
      (refine fl_val (v := ?_) (by rfl) ?_ ?_; rotate_left; (intro w' hS; obtain ⟨f1,f2,f3,f4,f5⟩ := hF w' hS; go_simp; with_reducible rfl); simp only [Act.put, List.setIfInBounds_toArray, List.set_cons_zero, List.set_cons_succ])
      clear hand
      refine fl_call (f := 53) (v := .bool (offsF pr (minusN st sf) 0 ofs)) (by rfl) rfl (by simp only [List.map_toArray, List.map_cons, List.map_nil]; rfl) Tryd.func53 (by kernel_rfl) (by kernel_rfl) (fun w' hS => ((HO (minusN st sf) w' hml).out.mono (fun e w'' h => ⟨h.1, hS.then h.2⟩))) ?_; simp only [Act.put, List.setIfInBounds_toArray, List.set_cons_zero, List.set_cons_succ]
      repeat (refine fl_val (v := ?_) (by rfl) ?_ ?_; rotate_left; (intro w' hS; obtain ⟨f1,f2,f3,f4,f5⟩ := hF w' hS; go_simp; with_reducible rfl); simp only [Act.put, List.setIfInBounds_toArray, List.set_cons_zero, List.set_cons_succ])
      refine fl_nil ?_
      intro w' hS
      go_wp2
      go_ret
      exact ⟨by rw [HF.out]; rfl, K3.then hS⟩
  · have HF : Hid (r = false) := by show _ = _; rw [HOK2.out]; simp [hki]
    have hne : ((kk : Int) != (i : Int)) = true := by simp; omega
    have hne' : (kk != i) = true := by simp; omega
    clear HOK2 HO HM hoff hki
    go_enter Tryd.func38, Tryd.ntmps38
    go_wp2_with (first
      | (refine wpList_load_agg rfl 93 (.tmp 11) rfl rfl (cs := ec) (by rw [HL.out]; exact agg_edge) hce ?_)
      | (refine stop_store 93 (.tmp 5) (.tmp 12) rfl ?_))
    constructor
    refine wpList_store_all rfl 93 (.tmp 5) (.tmp 12) rfl rfl rfl (vs := ec) (by rw [HL.out]; exact agg_edge.2) (Blk.new1 _ _ _ _) hone (by rw [HL.out]; rfl) ?_
    intro w2 hb2 hk2
    have q0 := hb2.at_ e0
    have q1 := hb2.at_ e1
    have q2 := hb2.at_ e2
    have KK := ((Keep.refl [w.heap.size + 1] (w.alloc (.cells il.toArray 26))).alloc _).trans hk2 (fun y hy _ => by simpa using hy)
    have q3 := (KK.cell (p := ⟨w.heap.size, 2, none⟩) (by simp) (by simp)).trans c2
    have qI := Lib.hid ((hbo.out.keep KK (by simp)).cellsAt)
    have hk3 := (K0.alloc _).trans hk2 (fun y hy h => by simp at hy; omega)
    clear hb2 hk2 hce KK
    go_wp2_with (refine wpList_load_agg rfl 26 (.tmp 2) rfl rfl (cs := il) (by rw [HIL.out]; exact agg_image) qI.out ?_)
    refine (HE _ hk3).out.mono ?_
    rintro en w3 ⟨rfl, k3⟩
    rw [HR.out]
    go_wp2
    go_ret
    exact ⟨by rw [HF.out]; rfl, hk3.then k3⟩
end Go.Proofs.YteflgdnekflbbaaDoor
