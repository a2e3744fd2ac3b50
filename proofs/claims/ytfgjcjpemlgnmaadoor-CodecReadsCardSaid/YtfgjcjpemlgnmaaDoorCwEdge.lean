/- An edge's words, handed on one by one. Condition: the table of math/bits lies where the program's text lays it. -/
import Derived.Test.YtfgjcjpemlgnmaaDoorCwFresh
namespace Go.Proofs.YtfgjcjpemlgnmaaDoor
open Go.RowKit
attribute [local go_sem] Oper.semAt_some

/-- The function's own boxes: the image, the body, the result, the edge. -/
structure SE (W : World) (l : Nat) (il : List Value) (ce : List Value) (w : World) : Prop where
  img : Blk w W.heap.size 26 il.toArray
  yld : Blk w (W.heap.size + 1) 88 #[.func (.yield l) #[] #[]]
  res : Blk w (W.heap.size + 2) 4 #[.bool false]
  edg : Blk w (W.heap.size + 3) 70 ce.toArray
theorem SE.kp {W : World} {l B0 B2 : Nat} {il ce : List Value} {w w' : World} (h : SE W l il ce w) (k : KpW B0 B2 w w') : SE W l il ce w' := ⟨k.blk h.img (by decide), k.blk h.yld (by decide), k.blk h.res (by decide), k.blk h.edg (by decide)⟩
theorem SE.keep0 {W : World} {l : Nat} {il ce : List Value} {w w' : World} (h : SE W l il ce w) (k : Keep [] w w') : SE W l il ce w' := ⟨h.img.keep k (by simp), h.yld.keep k (by simp), h.res.keep k (by simp), h.edg.keep k (by simp)⟩

set_option maxRecDepth 100000 in
set_option maxHeartbeats 2000000 in
theorem edge_hands (v : ImgV) (x : Img) (w0 : World) (hx : ImgAt w0 v x) (hT : Tab w0) (i : Nat) (hi : i < x.edges.length) (hfr : ∀ k ∈ bitsL (freshN x x.edges[i]), k < 16) (l B2 : Nat) (J Jx : List Int → World → Prop) (W : World)
    (hw : Below w0.heap.size w0 W) (hB2 : B2 ≤ W.heap.size) {lb : Nat} (hlb : lb ≤ W.heap.size) (hJ : OwnT W.heap.size (LoW lb) J) (hJx : OwnT W.heap.size (LoW lb) Jx) (hY : Rounds l (KpW w0.heap.size B2) (wordsE x x.edges[i]) J Jx) (h0 : J [] W) :
    Calls Tryd.prog 39 #[.agg (imgCells v x).toArray, .int .i64 (i : Int), .func (.yield l) #[] #[]] W (Handed (KpW w0.heap.size B2) (wordsE x x.edges[i]) J Jx W) := by
  have hB0 := hw.size
  rw [← callsIn_wide (n := 9)]
  refine callsIn_of_wp_marks Tryd.func39 rfl trivial ?_ rfl
  simp only [Tryd.ntmps39, List.size_toArray, List.length_cons, List.length_nil, Nat.reduceAdd, Nat.reduceSub, Array.replicate_succ, Array.replicate_zero, List.push_toArray, List.append_toArray, List.nil_append, List.cons_append]
  obtain ⟨W0, hW0⟩ : ∃ W0, ((W.alloc (.cells (imgCells v x).toArray 26)).alloc (.cells #[.func (.yield l) #[] #[]] 88)).alloc (.cells #[.bool false] 4) = W0 := ⟨_, rfl⟩
  have hsz : W0.heap.size = W.heap.size + 3 := by rw [← hW0]; simp
  have c0 : Blk W0 W.heap.size 26 (imgCells v x).toArray := by rw [← hW0]; exact ((Blk.new _ _ _).alloc _).alloc _
  have c1 : Blk W0 (W.heap.size + 1) 88 #[.func (.yield l) #[] #[]] := by
    rw [← hW0]; have := Blk.new (W.alloc (.cells (imgCells v x).toArray 26)) 88 #[.func (.yield l) #[] #[]]; rw [World.size_alloc] at this; exact this.alloc _
  have c2 : Blk W0 (W.heap.size + 2) 4 #[.bool false] := by
    rw [← hW0]; have := Blk.new ((W.alloc (.cells (imgCells v x).toArray 26)).alloc (.cells #[.func (.yield l) #[] #[]] 88)) 4 #[.bool false]; rw [World.size_alloc, World.size_alloc] at this; exact this
  have K0 : Keep [] W W0 := by rw [← hW0]; exact (((Keep.refl _ W).alloc _).alloc _).alloc _
  have k0 : KpW w0.heap.size B2 W W0 := (KpW.refl W).step K0 (by simp) hB0
  have j0 := hJ.keep0 h0 K0
  have HE := Lib.hid (hx.keep0 (keep_of_below (hw.trans k0.below)))
  obtain ⟨eb, eo, hA, hbw, hcs2⟩ := HE.out.edge (by omega)
  have hq := Lib.hid (hcs2 i hi)
  have hL := HE.out.le
  unfold maxLen at hL
  have f3 : W0.cell? ⟨W.heap.size, 3, none⟩ = some (.slice (some ⟨eb, eo, none⟩) x.edges.length v.ec) := by rw [c0.cell, ← hA]; rfl
  have HOK : Hid (x.edges[i].offs.length = 16 ∧ x.edges[i].mp.length = 4) := ⟨hx.ok.offs _ (List.getElem_mem hi), hx.ok.mp _ (List.getElem_mem hi)⟩
  have HLE : Hid ((edgCells x.edges[i]).length = 23) := edgCells_len HOK.out.1 HOK.out.2
  have HX := Lib.hid hx
  have HT := Lib.hid hT
  have HFR := Lib.hid hfr
  have HFe := fun w h => Lib.hid (fresh_any v x x.edges[i] w h HOK.out.1 HOK.out.2)
  have HFL := Lib.hid (freshN_lt x x.edges[i] hx.ok)
  have HIL : Hid ((imgCells v x).length = 4) := show _ = _ from rfl
  have HW := Lib.hid hW0
  clear hW0 hcs2 hx hT hfr h0
  have hi1 : (i : Int) < (x.edges.length : Int) := by omega
  have hi0 : (0 : Int) ≤ (i : Int) := by omega
  generalize x.edges[i] = ed at *
  generalize imgCells v x = il at *
  generalize hce : edgCells ed = ce at *
  have hone : ∀ u, u ∈ ce → u.oneCell' = true := by rw [← hce]; exact iv_one _
  have HCE : Hid (∀ w', Blk w' (W.heap.size + 3) 70 ce.toArray → w'.cell? ⟨W.heap.size + 3, 0, none⟩ = some (.int .i64 ed.frm) ∧ w'.cell? ⟨W.heap.size + 3, 1, none⟩ = some (.int .i64 ed.to) ∧ w'.cell? ⟨W.heap.size + 3, 2, none⟩ = some (.int .i64 ed.prot) ∧
      CellsAt w' (W.heap.size + 3) 19 (iv ed.mp) ∧ ∀ k, k < 16 → w'.cell? ⟨W.heap.size + 3, 3 + k, none⟩ = some (.int .i64 (ed.offs.getD k 0))) := fun w' hb => by
    have hc : ∀ j u, ce[j]? = some u → w'.cell? ⟨W.heap.size + 3, j, none⟩ = some u := fun j u hu => by rw [hb.cell]; simpa using hu
    rw [← hce] at hc
    refine ⟨hc 0 _ rfl, hc 1 _ rfl, hc 2 _ rfl, fun j u hu => hc _ u ?_, fun k hk => hc _ _ ?_⟩
    · have : (edgCells ed)[19 + j]? = (iv ed.mp)[j]? := by
        have e0 : edgCells ed = iv [ed.frm, ed.to, ed.prot] ++ (iv ed.offs ++ iv ed.mp) := by simp [edgCells, edgInts, iv]
        rw [e0, List.getElem?_append_right (by simp [iv]; omega), List.getElem?_append_right (by simp [iv, HOK.out.1]; omega)]
        congr 1
        simp [iv, HOK.out.1]
        omega
      rw [this]; exact hu
    · have : (edgCells ed)[3 + k]? = (iv ed.offs)[k]? := by
        have e0 : edgCells ed = iv [ed.frm, ed.to, ed.prot] ++ (iv ed.offs ++ iv ed.mp) := by simp [edgCells, edgInts, iv]
        rw [e0, List.getElem?_append_right (by simp [iv]), List.getElem?_append_left (by simp [iv, HOK.out.1]; omega)]
        congr 1
        simp [iv]
      rw [this, iv_get (by rw [HOK.out.1]; exact hk), List.getD_eq_getElem?_getD, List.getElem?_eq_getElem (by rw [HOK.out.1]; exact hk)]
      rfl
  obtain ⟨V, hV⟩ : ∃ V, W0.alloc (.cells (List.replicate 23 (.int .i64 0)).toArray 70) = V := ⟨_, rfl⟩
  have KV : Keep [] W0 V := by rw [← hV]; exact (Keep.refl _ W0).alloc _
  have bV : Blk V (W.heap.size + 3) 70 (List.replicate 23 (.int .i64 0)).toArray := by rw [← hV, ← hsz]; exact Blk.new _ _ _
  have hst := run_storeCells_blk (P := Tryd.prog) ce ⟨W.heap.size + 3, 0, none⟩ 0 0 rfl bV hone (by rw [HLE.out]; simp)
  obtain ⟨b1, K1⟩ := storeRow_blk ce 0 bV
  rw [splice_all ce _ (by rw [HLE.out]; simp)] at b1
  rw [Nat.add_zero] at hst
  generalize storeRow V (W.heap.size + 3) 0 ce = w1 at *
  have hs1 : SE W l il ce w1 := ⟨((c0.keep KV (by simp)).keep K1 (by simp)), ((c1.keep KV (by simp)).keep K1 (by simp)), ((c2.keep KV (by simp)).keep K1 (by simp)), b1⟩
  have k1 : KpW w0.heap.size B2 W w1 := (k0.step KV (by simp) hB0).step K1 (by simp) hB0
  have j1 : J [] w1 := hJ.keep1 (hJ.keep0 j0 KV) (by omega) K1 bV (by decide)
  have hV' : W0.alloc (.cells #[.int .i64 0, .int .i64 0, .int .i64 0, .int .i64 0, .int .i64 0, .int .i64 0, .int .i64 0, .int .i64 0, .int .i64 0, .int .i64 0, .int .i64 0, .int .i64 0, .int .i64 0, .int .i64 0, .int .i64 0, .int .i64 0, .int .i64 0, .int .i64 0, .int .i64 0, .int .i64 0, .int .i64 0, .int .i64 0, .int .i64 0] 70) = V := hV
  clear hV
  obtain ⟨g0, g1, g2, _, _⟩ := HCE.out _ hs1.edg
  have y1 := hs1.yld.cell 0
  simp at y1
  have HV := Lib.hid hV'
  clear hV' bV KV K1 b1 k0 K0 c0 c1 c2 j0
  obtain ⟨fn, tmps, assign, body, hy, hR⟩ := hY.next 8 [] _ ed.frm rfl j1
  gi_wp2_with (first
    | rw [HW.out]
    | rw [HV.out]
    | (refine wpListIn_agg rfl 70 (.tmp 14) rfl rfl (cs := ce) (by rw [HLE.out]; exact agg_edge) hq.out ?_))
  refine hR.mono ?_
  rintro e w2 (⟨rfl, j2, kr⟩ | ⟨rfl, jx, kr⟩)
  rotate_left
  · have hs := hs1.kp kr
    have cc := hs.res.cell 0
    have ff := hs.res.frozen 0
    simp at cc
    gi_wp2
    refine ⟨fun _ h => (by cases h), ?_⟩
    gi_wp2
    have m1 := (hs.res.set_ 0 (.bool false)).cell 0
    simp at m1
    exact ⟨.bool false, by simp [results, Tryd.results39, go_sem, m1], .inr ⟨rfl, _, ⟨ed.to :: ed.prot :: (ed.mp ++ if ed.prot = 3 then (bitsL (freshN x ed)).map (fun k => ed.offs.getD k 0) else []), by simp [wordsE]⟩, hJx.set (.bool false) jx hs.res rfl ⟨by omega, _, _, _, rfl, by decide⟩⟩⟩
  have hs2 := hs1.kp kr
  have k2 := k1.trans kr
  obtain ⟨g0, g1, g2, _, _⟩ := HCE.out _ hs2.edg
  have y1 := hs2.yld.cell 0
  simp at y1
  clear hy hR kr
  obtain ⟨fn, tmps, assign, body, hy, hR⟩ := hY.next 8 [ed.frm] _ ed.to rfl j2
  gi_wp2
  refine hR.mono ?_
  rintro e w3 (⟨rfl, j3, kr⟩ | ⟨rfl, jx, kr⟩)
  rotate_left
  · have hs := hs2.kp kr
    have cc := hs.res.cell 0
    have ff := hs.res.frozen 0
    simp at cc
    gi_wp2
    refine ⟨fun _ h => (by cases h), ?_⟩
    gi_wp2
    have m1 := (hs.res.set_ 0 (.bool false)).cell 0
    simp at m1
    exact ⟨.bool false, by simp [results, Tryd.results39, go_sem, m1], .inr ⟨rfl, _, ⟨ed.prot :: (ed.mp ++ if ed.prot = 3 then (bitsL (freshN x ed)).map (fun k => ed.offs.getD k 0) else []), by simp [wordsE]⟩, hJx.set (.bool false) jx hs.res rfl ⟨by omega, _, _, _, rfl, by decide⟩⟩⟩
  have hs3 := hs2.kp kr
  have k3 := k2.trans kr
  obtain ⟨g0, g1, g2, _, _⟩ := HCE.out _ hs3.edg
  have y1 := hs3.yld.cell 0
  simp at y1
  clear hy hR kr
  obtain ⟨fn, tmps, assign, body, hy, hR⟩ := hY.next 8 [ed.frm, ed.to] _ ed.prot rfl j3
  gi_wp2
  refine hR.mono ?_
  rintro e w4 (⟨rfl, j4, kr⟩ | ⟨rfl, jx, kr⟩)
  rotate_left
  · have hs := hs3.kp kr
    have cc := hs.res.cell 0
    have ff := hs.res.frozen 0
    simp at cc
    gi_wp2
    have m1 := (hs.res.set_ 0 (.bool false)).cell 0
    simp at m1
    exact ⟨.bool false, by simp [results, Tryd.results39, go_sem, m1], .inr ⟨rfl, _, ⟨(ed.mp ++ if ed.prot = 3 then (bitsL (freshN x ed)).map (fun k => ed.offs.getD k 0) else []), by simp [wordsE]⟩, hJx.set (.bool false) jx hs.res rfl ⟨by omega, _, _, _, rfl, by decide⟩⟩⟩
  have hs4 := hs3.kp kr
  have k4 := k3.trans kr
  obtain ⟨_, _, _, hmp, _⟩ := HCE.out _ hs4.edg
  clear hy hR kr g0 g1 g2 y1
  have HA4 : Hid (AggOf Tryd.prog 68 (iv ed.mp).length) := by show AggOf _ _ _; rw [List.length_map, HOK.out.2]; exact agg_4
  gi_wp2_with (refine wpListIn_agg rfl 68 (.tmp 35) rfl rfl (cs := iv ed.mp) HA4.out hmp ?_)
  have HI := Lib.hid (fun k (hk : k < 4) v hv W => run_index_agg (P := Tryd.prog) (t := 68) (e := 3) (n := 4) (cs := (iv ed.mp).toArray) (v := v) Tryd.underlying68 Tryd.underlying3 rfl (by kernel_rfl) k hk hv W)
  have HG : Hid (∀ k, (hk : k < 4) → (iv ed.mp).toArray[k]? = some (.int .i64 (ed.mp.getD k 0))) := fun k hk => by
    have hm4 := HOK.out.2
    rw [List.getElem?_toArray, iv_get (by omega), List.getD_eq_getElem?_getD, List.getElem?_eq_getElem (by omega)]; rfl
  have HTK : Hid (∀ k, k < 4 → ed.mp.take (k + 1) = ed.mp.take k ++ [ed.mp.getD k 0]) := fun k hk => by
    have hm4 := HOK.out.2
    rw [List.take_succ_eq_append_getElem (by omega), List.getD_eq_getElem?_getD, List.getElem?_eq_getElem (by omega)]; rfl
  have HPF : Hid (∀ k, k < 4 → (([ed.frm, ed.to, ed.prot] ++ ed.mp.take k) ++ [ed.mp.getD k 0]) <+: wordsE x ed) := fun k hk => by
    have := HTK.out k hk
    refine ⟨ed.mp.drop (k + 1) ++ if ed.prot = 3 then (bitsL (freshN x ed)).map (fun k => ed.offs.getD k 0) else [], ?_⟩
    have e := List.take_append_drop (k + 1) ed.mp
    rw [this] at e
    unfold wordsE
    conv => rhs; rw [← e]
    simp
  have HT4 : Hid (ed.mp.take 4 = ed.mp) := by show _ = _; rw [List.take_of_length_le (by rw [HOK.out.2]; omega)]
  clear hmp HA4
  generalize hcm : (iv ed.mp).toArray = cm at *
  clear hcm
  gi_loopw [37] (fun vi wr => ∃ k : Nat, k ≤ 4 ∧ vi = .int .i64 (k : Int) ∧ J ([ed.frm, ed.to, ed.prot] ++ ed.mp.take k) wr ∧ SE W l il ce wr ∧ KpW w0.heap.size B2 W wr) (fun i _ => 4 - (intOf i).toNat)
  case atStart => exact ⟨0, Nat.zero_le _, rfl, by simpa using j4, hs4, k4⟩
  case round =>
    obtain ⟨k, hk, rfl, hj, hsr, hkr⟩ := hrel
    by_cases hlt : k < 4
    · have hrun := fun W => HI.out k hlt _ (HG.out k hlt) W
      have y1 := hsr.yld.cell 0
      simp at y1
      obtain ⟨fn, tmps, assign, body, hy, hR⟩ := hY 8 _ _ wr hj (HPF.out k hlt)
      dsimp only [encZ] at hy
      have HTk := Lib.hid (HTK.out k hlt)
      have HPk := Lib.hid (HPF.out k hlt)
      generalize ed.mp.getD k 0 = c at *
      gi_wp2
      refine hR.mono ?_
      rintro e w5 (⟨rfl, j5, kr⟩ | ⟨rfl, jx, kr⟩)
      · gi_wp2
        go_roundw
        case rel => exact ⟨k + 1, by omega, by go_num, by rw [HTk.out]; simpa using j5, hsr.kp kr, hkr.trans kr⟩
        case measure => simp [intOf] <;> omega
      · have hs := hsr.kp kr
        have cc := hs.res.cell 0
        have ff := hs.res.frozen 0
        simp at cc
        gi_wp2
        have m1 := (hs.res.set_ 0 (.bool false)).cell 0
        simp at m1
        exact ⟨.bool false, by simp [results, Tryd.results39, go_sem, m1], .inr ⟨rfl, _, HPk.out, hJx.set (.bool false) jx hs.res rfl ⟨by omega, _, _, _, rfl, by decide⟩⟩⟩
    · obtain rfl : k = 4 := by omega
      rw [HT4.out] at hj
      obtain ⟨_, _, g2, _, _⟩ := HCE.out _ hsr.edg
      by_cases hp : ed.prot = 3
      · have hpn : (ed.prot != 3) = false := by simpa using hp
        have HWN : Hid (wordsE x ed = ([ed.frm, ed.to, ed.prot] ++ ed.mp) ++ (bitsL (freshN x ed)).map (fun k => ed.offs.getD k 0)) := by show _ = _; unfold wordsE; rw [if_pos hp]; simp
        have HFw := HFe wr (HX.out.keep0 (keep_of_below (hw.trans hkr.below)))
        have HCI := Lib.hid hsr.img.cellsAt
        have HCD := Lib.hid hsr.edg.cellsAt
        clear hp
        gi_wp2_with (first
          | (refine wpListIn_agg rfl 26 (.tmp 3) rfl rfl (cs := il) (by rw [HIL.out]; exact agg_image) HCI.out ?_)
          | (refine wpListIn_agg rfl 70 (.tmp 7) rfl rfl (cs := ce) (by rw [HLE.out]; exact agg_edge) HCD.out ?_)
          | (refine ⟨trivial, ?_⟩; gi_at_call 41; refine (callsIn_wide.2 HFw.out).mono ?_; rintro e w6 ⟨rfl, k6⟩)
          | (refine ⟨trivial, ?_⟩; gi_at_call 40; refine (callsIn_wide.2 (maskAll_any (freshN x ed) _)).mono ?_; rintro e w7 ⟨rfl, rfl⟩))
        obtain ⟨W7, hW7⟩ : ∃ W7, w6.alloc (.cells #[.int .u32 (freshN x ed : Nat)] 86) = W7 := ⟨_, rfl⟩
        have hsz7 : W7.heap.size = w6.heap.size + 1 := by rw [← hW7]; simp
        have K7 : Keep [] wr W7 := by rw [← hW7]; exact k6.alloc _
        have d7 : Blk W7 w6.heap.size 86 #[.int .u32 (freshN x ed : Nat)] := by rw [← hW7]; exact Blk.new _ _ _
        have hge : W.heap.size + 4 ≤ w6.heap.size := by have h1 := hsr.edg.lt; have h2 := k6.size; omega
        have j7 := hJ.keep0 hj K7
        have s7 := hsr.keep0 K7
        have k7 := hkr.step K7 (by simp) hB0
        have T7 : Tab W7 := HT.out.keep0 (keep_of_below (hw.trans k7.below))
        have hss := maskAll1_seq 8 (freshN x ed) w6.heap.size W7 (by omega) d7 HFL.out T7
        have hT0 := HT.out.1
        simp only [hW7]
        clear hW7 HCI HCD HFw K7 T7
        have hpf : ∀ (pre : List Nat) (q : Nat), pre ++ [q] <+: bitsL (freshN x ed) → (([ed.frm, ed.to, ed.prot] ++ ed.mp) ++ pre.map (fun k => ed.offs.getD k 0)) ++ [ed.offs.getD q 0] <+: wordsE x ed := fun pre q h => by
          obtain ⟨r, hr⟩ := h
          rw [HWN.out, ← hr]
          exact ⟨r.map (fun k => ed.offs.getD k 0), by simp⟩
        refine wpIn_rangeT (F := Fence.wide) (n := 9) (Lo := fun _ _ => False) (ps := #[52]) rfl (by omega) (gf := 50) (lb := #[.pointer (some ⟨w6.heap.size, 0, none⟩)]) rfl trivial (enters_of Tryd.func50 (by kernel_rfl) rfl)
          (hss.toT _) Same.trans (fun W _ o' _ _ => Same.putO (by simp; omega) o') (Below.refl _ _) (fun _ => rfl)
          (fun pre W' => J (([ed.frm, ed.to, ed.prot] ++ ed.mp) ++ pre.map (fun k => ed.offs.getD k 0)) W' ∧ (SE W l il ce W' ∧ KpW w0.heap.size B2 W W' ∧ Blk W' w6.heap.size 86 #[.int .u32 (freshN x ed : Nat)]))
          (fun c _ W' => c = .ret ∧ (∃ q, q <+: wordsE x ed ∧ Jx q W') ∧ Blk W' (W.heap.size + 2) 4 #[.bool false])
          ?hI ?hIx ⟨by simpa using j7, s7, k7, d7⟩
          (fun q => { tmps := #[.agg il.toArray, .int .i64 (i : Int), .func (.yield l) #[] #[], .pointer (some ⟨W.heap.size, 0, none⟩), undef, .pointer (some ⟨W.heap.size + 1, 0, none⟩), .pointer (some ⟨W.heap.size + 1 + 1, 0, none⟩), .pointer (some ⟨W.heap.size + 3, 0, none⟩), undef, u9, .int .i64 (q : Int),
            .pointer (some ⟨W.heap.size, 3, none⟩), .slice (some ⟨eb, eo, none⟩) x.edges.length v.ec, .int .i64 (i : Int), .pointer (some ⟨eb, eo + i * 23, none⟩), .agg ce.toArray,
            .func (.yield l) #[] #[], .pointer (some ⟨W.heap.size + 3, 0, none⟩), .int .i64 ed.frm, .bool true, .bool false, .bool false,
            .func (.yield l) #[] #[], .pointer (some ⟨W.heap.size + 3, 1, none⟩), .int .i64 ed.to, .bool true, .bool false, .bool false, .bool false,
            .func (.yield l) #[] #[], .pointer (some ⟨W.heap.size + 3, 2, none⟩), .int .i64 ed.prot, .bool true, .bool false, .bool false,
            .pointer (some ⟨W.heap.size + 3, 19, none⟩), .agg cm, .int .i64 4, .bool false, u39, u40, u41, u42, u43, u44, .pointer (some ⟨W.heap.size + 3, 2, none⟩), .int .i64 ed.prot, .bool false,
            .agg il.toArray, .agg ce.toArray, .int .u32 (freshN x ed : Nat), .func (.func 50) #[] #[.pointer (some ⟨w6.heap.size, 0, none⟩)], .int .i64 (q : Int), undef, undef, undef, undef, undef, undef, undef], defers := [] }) ?assign ?body ?done ?stop
        case hI =>
          refine OwnFrom.toT (OwnFrom.and ?_ (OwnFrom.and ?_ (OwnFrom.and ?_ ?_)))
          · exact fun pre X Y row hs hg hr => hJ.own _ X Y row hs hg (fun r e => ⟨by have := (hr r e).1; have := k6.size; omega, (hr r e).2⟩)
          · exact fun pre X Y row hs hg hr => ⟨blk_own (β := Unit) _ _ (fun _ => _) () X Y row hs.img hg hr, blk_own (β := Unit) _ _ (fun _ => _) () X Y row hs.yld hg hr, blk_own (β := Unit) _ _ (fun _ => _) () X Y row hs.res hg hr, blk_own (β := Unit) _ _ (fun _ => _) () X Y row hs.edg hg hr⟩
          · exact fun pre X Y row hs hg hr => KpW.own hB0 () X Y row hs hg (fun r e => ⟨by have := (hr r e).1; omega, (hr r e).2⟩)
          · exact blk_own _ _ _
        case hIx =>
          intro c
          refine OwnFrom.toT (OwnFrom.and (fun _ _ _ _ hs _ _ => hs) (OwnFrom.and ?_ ?_))
          · rintro pre X Y row ⟨q, hq, hs⟩ hg hr
            exact ⟨q, hq, hJx.own _ X Y row hs hg (fun r e => ⟨by have := (hr r e).1; omega, (hr r e).2⟩)⟩
          · exact blk_own _ _ _
        case assign =>
          intro l q W K hK
          simp only [encN]
          gi_wp2
          exact hK
        case body =>
          rintro l' pre q Wb ⟨hj, hs, hk, hd⟩ hpre
          have hp2 := hpf pre q hpre
          have hq16 : q < 16 := HFR.out q (hpre.subset (by simp))
          have hq1 : (q : Int) < 16 := by omega
          have hq0 : (0 : Int) ≤ (q : Int) := by omega
          have hSF : ∀ w', SE W l il ce w' → w'.cell? ⟨W.heap.size + 1, 0, none⟩ = some (.func (.yield l) #[] #[]) ∧ w'.cell? ⟨W.heap.size + 3, 3 + q, none⟩ = some (.int .i64 (ed.offs.getD q 0)) := fun w' h => ⟨by rw [h.yld.cell]; rfl, (HCE.out _ h.edg).2.2.2.2 q hq16⟩
          gi_wp2
          refine ai_start (SE W l il ce) rfl rfl (hs.keep0 (Keep.refl _ _).drew) (fun hND hS hPan => ?_)
          have jb := hJ.keep0 hj (Keep.refl _ Wb).drew
          have kb : KpW w0.heap.size B2 W Wb.drew := hk.step (F := []) (Keep.refl _ Wb).drew (by simp) hB0
          have db : Blk Wb.drew w6.heap.size 86 #[.int .u32 (freshN x ed : Nat)] := hd
          have hdr : ∀ k : Nat, Wb.drew.heap[k]? = Wb.heap[k]? := fun k => rfl
          have hdz : Wb.drew.heap.size = Wb.heap.size := rfl
          generalize Wb.drew = wd at *
          (refine ai_val (v := ?_) 0 rfl (open_round _) hND (by kernel_rfl) (by kernel_rfl) (by kernel_rfl) (by rfl) hPan ?_ hS ?_; rotate_left; (intro w' hSw; obtain ⟨f0, f1⟩ := hSF w' hSw; go_simp; try with_reducible rfl); simp only [Act.put, List.setIfInBounds_toArray, List.set_cons_zero, List.set_cons_succ])
          (refine ai_val (v := ?_) 1 rfl (open_round _) hND (by kernel_rfl) (by kernel_rfl) (by kernel_rfl) (by rfl) hPan ?_ hS ?_; rotate_left; (intro w' hSw; obtain ⟨f0, f1⟩ := hSF w' hSw; go_simp; try with_reducible rfl); simp only [Act.put, List.setIfInBounds_toArray, List.set_cons_zero, List.set_cons_succ])
          (refine ai_val (v := ?_) 2 rfl (open_round _) hND (by kernel_rfl) (by kernel_rfl) (by kernel_rfl) (by rfl) hPan ?_ hS ?_; rotate_left; (intro w' hSw; obtain ⟨f0, f1⟩ := hSF w' hSw; go_simp; try with_reducible rfl); simp only [Act.put, List.setIfInBounds_toArray, List.set_cons_zero, List.set_cons_succ])
          (refine ai_val (v := ?_) 3 rfl (open_round _) hND (by kernel_rfl) (by kernel_rfl) (by kernel_rfl) (by rfl) hPan ?_ hS ?_; rotate_left; (intro w' hSw; obtain ⟨f0, f1⟩ := hSF w' hSw; go_simp; try with_reducible rfl); simp only [Act.put, List.setIfInBounds_toArray, List.set_cons_zero, List.set_cons_succ])
          (refine ai_val (v := ?_) 4 rfl (open_round _) hND (by kernel_rfl) (by kernel_rfl) (by kernel_rfl) (by rfl) hPan ?_ hS ?_; rotate_left; (intro w' hSw; obtain ⟨f0, f1⟩ := hSF w' hSw; go_simp; try with_reducible rfl); simp only [Act.put, List.setIfInBounds_toArray, List.set_cons_zero, List.set_cons_succ])
          refine ai_one 5 (by kernel_rfl) (oi_yield 5 rfl (open_round _) hND (by rfl) rfl rfl (vs := #[.int .i64 (ed.offs.getD q 0)]) (by simp only [List.map_toArray, List.map_cons, List.map_nil]; rfl) (hY 6 _ _ wd jb hp2) rfl ?_)
          rintro e w8 (⟨rfl, j8, kr⟩ | ⟨rfl, jx, kr⟩)
          · have d8 := kr.blk db (by decide)
            refine ⟨_, rfl, hS.kp kr, ?_⟩
            replace hS := hS.kp kr
            (simp only [Act.put, List.setIfInBounds_toArray, List.set_cons_zero, List.set_cons_succ])
            (refine ai_val (v := ?_) 6 rfl (open_round _) hND (by kernel_rfl) (by kernel_rfl) (by kernel_rfl) (by rfl) hPan ?_ hS ?_; rotate_left; (intro w' hSw; go_simp; try with_reducible rfl); simp only [Act.put, List.setIfInBounds_toArray, List.set_cons_zero, List.set_cons_succ])
            refine ai_end (by kernel_rfl) ?_ _
            gi_wp2
            refine ⟨⟨by have := kr.other.size; omega, fun k o hk2 ho hc => kr.other.same k o (by omega) ((hdr k).trans ho) hc⟩, ?_, by simpa using j8, hS, kb.trans kr, d8⟩
            intro y hy
            simp only [List.mem_cons, List.not_mem_nil, or_false] at hy
            rcases hy with rfl | rfl
            · exact (show w8.heap[w6.heap.size]? = _ from d8).trans (show Wb.heap[w6.heap.size]? = _ from hd).symm
            · exact (kr.below.block _ hT0).trans (hdr _)
          · have d8 := kr.blk db (by decide)
            refine ⟨_, rfl, hS.kp kr, ?_⟩
            replace hS := hS.kp kr
            (simp only [Act.put, List.setIfInBounds_toArray, List.set_cons_zero, List.set_cons_succ])
            (refine ai_val (v := ?_) 6 rfl (open_round _) hND (by kernel_rfl) (by kernel_rfl) (by kernel_rfl) (by rfl) hPan ?_ hS ?_; rotate_left; (intro w' hSw; go_simp; try with_reducible rfl); simp only [Act.put, List.setIfInBounds_toArray, List.set_cons_zero, List.set_cons_succ])
            refine ai_end (by kernel_rfl) ?_ _
            have cc := hS.res.cell 0
            have ff := hS.res.frozen 0
            simp at cc
            gi_wp2
            have kst := keep_set w8 (W.heap.size + 2) 0 (.bool false)
            refine ⟨⟨Nat.le_trans (Nat.le_of_eq hdz.symm) (Nat.le_trans kr.other.size kst.size), fun k o hk2 ho hc => ?_⟩, ?_, rfl, ⟨_, hp2, hJx.set (.bool false) jx hS.res rfl ⟨by omega, _, _, _, rfl, by decide⟩⟩, hS.res.set_ 0 _⟩
            · have := kr.other.same k o (by omega) ((hdr k).trans ho) hc
              exact (kst.block k (Array.getElem?_eq_some_iff.1 this).1 (by simp; omega)).trans this
            · intro y hy
              simp only [List.mem_cons, List.not_mem_nil, or_false] at hy
              rcases hy with rfl | rfl
              · exact (kst.block _ d8.lt (by simp; omega)).trans ((show w8.heap[w6.heap.size]? = _ from d8).trans (show Wb.heap[w6.heap.size]? = _ from hd).symm)
              · exact (kst.block _ (Nat.lt_of_lt_of_le hT0 (Nat.le_trans hB0 (by have := d8.lt; omega))) (by simp)).trans ((kr.below.block _ hT0).trans (hdr _))
        case done =>
          rintro D Wd hD ⟨hj, hs, hk, hd⟩ hD2
          have cc := hs.res.cell 0
          have ff := hs.res.frozen 0
          simp at cc
          gi_wp2
          have kst := keep_set Wd (W.heap.size + 2) 0 (.bool true)
          have hD3 := (kst.block D (Array.getElem?_eq_some_iff.1 hD2).1 (by simp; omega)).trans hD2
          refine ⟨by simp, .inl ⟨_, _, rfl, run_takeDeferred hD3, ?_⟩⟩
          have e2 := hs.res.set_ 0 (.bool true)
          have m1 := (blk_putObj (.deferred none) e2 hD3 rfl).cell 0
          simp at m1
          refine ⟨.bool true, by simp [results, Tryd.results39, go_sem, m1], .inl ⟨rfl, ?_, ?_⟩⟩
          · exact hJ.own.putObj (s := wordsE x ed) _ (hJ.set (.bool true) (by rw [HWN.out]; exact hj) hs.res rfl ⟨by omega, _, _, _, rfl, by decide⟩) (by omega) hD3 rfl
          · exact (hk.step kst (by simp) hB0).step (keep_putObj _ D _) (by simp; omega) hB0
        case stop =>
          rintro D c pre Wd hD hpre ⟨rfl, ⟨q, hq, hjx⟩, hb⟩ hD2
          gi_wp2
          refine ⟨by simp, .inl ⟨_, _, rfl, run_takeDeferred hD2, ?_⟩⟩
          have m1 := (blk_putObj (.deferred none) hb hD2 rfl).cell 0
          simp at m1
          exact ⟨.bool false, by simp [results, Tryd.results39, go_sem, m1], .inr ⟨rfl, q, hq, hJx.own.putObj _ hjx (by omega) hD2 rfl⟩⟩
      · have hpn : (ed.prot != 3) = true := by simpa using hp
        have HWN : Hid (wordsE x ed = [ed.frm, ed.to, ed.prot] ++ ed.mp) := by show _ = _; unfold wordsE; rw [if_neg hp]; simp
        have cc := hsr.res.cell 0
        have ff := hsr.res.frozen 0
        simp at cc
        clear hp
        generalize ed.prot = pr at *
        gi_wp2
        have m1 := (hsr.res.set_ 0 (.bool true)).cell 0
        simp at m1
        have kst := keep_set wr (W.heap.size + 2) 0 (.bool true)
        exact ⟨.bool true, by simp [results, Tryd.results39, go_sem, m1], .inl ⟨rfl, hJ.set (s := wordsE x ed) (.bool true) (by rw [HWN.out]; exact hj) hsr.res rfl ⟨by omega, _, _, _, rfl, by decide⟩, hkr.step kst (by simp) hB0⟩⟩
end Go.Proofs.YtfgjcjpemlgnmaaDoor
