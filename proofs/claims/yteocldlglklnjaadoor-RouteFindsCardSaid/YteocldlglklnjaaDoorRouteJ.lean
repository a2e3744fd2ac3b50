/- By how many edges at the least each mode is reached (the document's Steps), and which are (its Reach). Condition: an image that may be. Which modes are reached (the document's Reach). Condition: an image that may be. -/
import Derived.Test.YteocldlglklnjaaDoorRouteG
import Derived.Test.YteocldlglklnjaaDoorRef03I
namespace Go.Proofs.YteocldlglklnjaaDoor
open Go.RowKit
attribute [local go_sem] Oper.semAt_some

/-- The edges of an image, whatever they take. -/
structure EgsOf (x : Img) (es : List Eg) : Prop where
  len : es.length = x.edges.length
  at_ : ∀ i, (hi : i < x.edges.length) → ∃ n l, es[i]? = some ⟨x.edges[i].frm.toNat, x.edges[i].to.toNat, n, l⟩
theorem egsOf {x : Img} {c : Crt} (hl : c.edges.length = x.edges.length) : EgsOf x (egs x c) :=
  ⟨egs_len hl, fun i hi => ⟨_, _, egs_at hi (by omega)⟩⟩
theorem iniB_far (M : Nat) : tickL (iniB M) M = tickL (fun _ => -1) M := tickL_congr (fun i hi => by unfold iniB; rw [if_pos hi])
theorem iniB_upd (M s : Nat) : tickL (upd (iniB M) s 0) M = tickL (upd (fun _ => -1) s 0) M := tickL_congr (fun i hi => by
  by_cases h : i = s
  · subst h; rw [upd_same, upd_same]
  · rw [upd_ne _ _ h, upd_ne _ _ h]; unfold iniB; rw [if_pos hi])
theorem levelL_take (es : List Eg) (n : Int) (o : Nat → Int) {i : Nat} {e : Eg} (h : es[i]? = some e) : levelL (es.take (i + 1)) n o = lev n (levelL (es.take i) n o) e := by
  have hi := (List.getElem?_eq_some_iff.1 h).1
  have he := (List.getElem?_eq_some_iff.1 h).2
  unfold levelL
  rw [List.take_succ_eq_append_getElem hi, List.foldl_append, he]; rfl
set_option maxRecDepth 100000 in
set_option maxHeartbeats 8000000 in
theorem steps_no (v : ImgV) (x : Img) (fr : Int) (w : World) (hM8 : x.modes.length ≤ 8) (hno : fr < 0 ∨ (x.modes.length : Int) ≤ fr) :
    Calls Tryd.prog 44 #[.agg (imgCells v x).toArray, .int .i64 fr] w (RetRow w (fun _ => -1) x.modes.length) := by
  obtain ⟨W0, hW0⟩ : ∃ W0, w.alloc (.cells (imgCells v x).toArray 26) = W0 := ⟨_, rfl⟩
  have b0 : Blk W0 w.heap.size 26 (imgCells v x).toArray := by rw [← hW0]; exact img_box w v x
  have K0 : Keep [] w W0 := by rw [← hW0]; exact (Keep.refl [] w).alloc _
  have hz0 : W0.heap.size = w.heap.size + 1 := by rw [← hW0]; simp
  have HI : Hid (∀ w', Keep [] W0 w' → w'.cell? ⟨w.heap.size, 2, none⟩ = some (.slice v.ma x.modes.length v.mc) ∧ w'.cell? ⟨w.heap.size, 3, none⟩ = some (.slice v.ea x.edges.length v.ec)) := fun w' hk => ⟨img_c2 (b0.keep0 hk), img_c3 (b0.keep0 hk)⟩
  have HK0 := Lib.hid K0
  have HW := Lib.hid hW0
  have HM8 := Lib.hid hM8
  clear K0 hW0 b0 hM8 hz0
  generalize (imgCells v x).toArray = il at *
  obtain ⟨c2, _⟩ := HI.out W0 (Keep.refl _ _)
  go_enter Tryd.func44, Tryd.ntmps44
  go_wp2_with (first | rw [HW.out] | (refine wpList_make1 rfl (.tmp 12) (.tmp 12) 40 rfl 3 (.int .i64 0) 8 Tryd.underlying40 (by kernel_rfl) rfl x.modes.length rfl rfl (by have := HM8.out; omega) (by have := HM8.out; omega) ?_))
  have DT : Blk (W0.alloc (.cells (Array.replicate x.modes.length (.int .i64 0)) 3)) W0.heap.size 3 (Array.replicate x.modes.length (.int .i64 0)) := Blk.new _ _ _
  have hS : Keep [] W0 (W0.alloc (.cells (Array.replicate x.modes.length (.int .i64 0)) 3)) := (Keep.refl [] W0).alloc _
  obtain ⟨gT, hg⟩ : ∃ g, W0.heap.size = g := ⟨_, rfl⟩
  rw [hg] at DT
  have hgT : W0.heap.size ≤ gT := by omega
  rw [hg]
  generalize W0.alloc (.cells (Array.replicate x.modes.length (.int .i64 0)) 3) = wf at *
  rw [show Array.replicate x.modes.length (Value.int .i64 0) = (List.replicate x.modes.length (Value.int .i64 0)).toArray from by simp] at DT
  rw [tickL_rep, iniB_zero] at DT
  have HDT := Lib.hid DT
  have HKF := Lib.hid hS
  have HGG := Lib.hid hgT
  clear DT hS hgT hg c2
  go_loopw [6] (fun vi wr => ∃ j : Nat, j ≤ x.modes.length ∧ vi = .int .i64 (j : Int) ∧ Blk wr gT 3 (tickL (iniB j) x.modes.length).toArray ∧ Keep [] W0 wr) (fun vi _ => x.modes.length - (intOf vi).toNat)
  case atStart => exact ⟨0, Nat.zero_le _, rfl, HDT.out, HKF.out⟩
  case round =>
    obtain ⟨j, hj, rfl, hT, hK⟩ := hrel
    have hM8 := HM8.out
    have hgg := HGG.out
    by_cases hlt : j < x.modes.length
    · have p0 : (0 : Int) ≤ (j : Int) := by omega
      have p1 : (j : Int) < (x.modes.length : Int) := by omega
      have p2 : decide ((j : Int) < (x.modes.length : Int)) = true := decide_eq_true p1
      have cT := hT.at_ (tickL_at (iniB j) hlt)
      have fT := hT.frozen j
      have hT2 := hT.set_ j (.int .i64 (-1))
      rw [tickL_set, iniB_step] at hT2
      have K2 : Keep [] W0 (wr.setCell ⟨gT, j, none⟩ (.int .i64 (-1))) := hK.trans (keep_set wr gT j _) (fun y hy hlt => by simp at hy; omega)
      have HALL := Lib.hid (And.intro hT2 K2)
      clear hT hK hT2 K2
      go_wp2
      go_roundw
      case rel => exact ⟨j + 1, by omega, by go_num, HALL.out.1, HALL.out.2⟩
      case measure => simp [intOf] <;> omega
    · obtain rfl : j = x.modes.length := by omega
      have p2 : decide ((x.modes.length : Int) < (x.modes.length : Int)) = false := by simp
      rw [iniB_far] at hT
      have HH := Lib.hid hT
      have HK := Lib.hid hK
      clear hT hK
      by_cases h1 : fr < 0
      · have q0 : decide (fr < 0) = true := decide_eq_true h1
        clear hno
        go_wp2
        go_ret
        exact ⟨gT, rfl, HH.out, HK0.out.then HK.out⟩
      · have q0 : decide (fr < 0) = false := decide_eq_false h1
        have q1 : decide ((x.modes.length : Int) ≤ fr) = true := decide_eq_true (by omega)
        clear hno
        go_wp2
        go_ret
        exact ⟨gT, rfl, HH.out, HK0.out.then HK.out⟩
set_option maxRecDepth 100000 in
set_option maxHeartbeats 8000000 in
theorem steps_yes (v : ImgV) (x : Img) (es : List Eg) (s : Nat) (w : World) (h : ImgAt w v x) (hr : (chkImg x).2 = 0) (hes : EgsOf x es) (hs : s < x.modes.length) :
    Calls Tryd.prog 44 #[.agg (imgCells v x).toArray, .int .i64 (s : Int)] w (RetRow w (levels es (upd (fun _ => -1) s 0) x.modes.length) x.modes.length) := by
  have hR := right_of hr
  have hM8 := hR.nm.2
  have hE24 := hR.ne
  obtain ⟨W0, hW0⟩ : ∃ W0, w.alloc (.cells (imgCells v x).toArray 26) = W0 := ⟨_, rfl⟩
  have b0 : Blk W0 w.heap.size 26 (imgCells v x).toArray := by rw [← hW0]; exact img_box w v x
  have K0 : Keep [] w W0 := by rw [← hW0]; exact (Keep.refl [] w).alloc _
  have hz0 : W0.heap.size = w.heap.size + 1 := by rw [← hW0]; simp
  have HI : Hid (∀ w', Keep [] W0 w' → w'.cell? ⟨w.heap.size, 2, none⟩ = some (.slice v.ma x.modes.length v.mc) ∧ w'.cell? ⟨w.heap.size, 3, none⟩ = some (.slice v.ea x.edges.length v.ec)) := fun w' hk => ⟨img_c2 (b0.keep0 hk), img_c3 (b0.keep0 hk)⟩
  have hlx := h.le
  unfold maxLen at hlx
  have HEd : Hid (∀ i, (hi : i < x.edges.length) → ∃ b o, v.ea = some ⟨b, o, none⟩ ∧ ∀ w', Keep [] W0 w' → CellsAt w' b (o + i * 23) (edgCells x.edges[i])) := fun i hi => by
    obtain ⟨b, o, hA, hbw, hcs⟩ := h.edge (by omega)
    exact ⟨b, o, hA, fun w' k => (hcs i hi).keep0 (K0.then k) hbw⟩
  have HELn : Hid (∀ i, (hi : i < x.edges.length) → (edgCells x.edges[i]).length = 23) := fun i hi => edgCells_len (h.ok.offs _ (List.getElem_mem hi)) (h.ok.mp _ (List.getElem_mem hi))
  have HRng : Hid (∀ i, (hi : i < x.edges.length) → (0 ≤ x.edges[i].frm ∧ x.edges[i].frm < x.modes.length) ∧ 0 ≤ x.edges[i].to ∧ x.edges[i].to < x.modes.length) := fun i hi => ⟨(hR.edgeIn i hi).1, (hR.edgeIn i hi).2.1⟩
  have HAt : Hid (∀ i, (hi : i < x.edges.length) → ∃ n l, es[i]? = some ⟨x.edges[i].frm.toNat, x.edges[i].to.toNat, n, l⟩) := hes.at_
  have HEL := Lib.hid hes.len
  have HM8 := Lib.hid hM8
  have HE24 := Lib.hid hE24
  have HS := Lib.hid hs
  have HK0 := Lib.hid K0
  have HW := Lib.hid hW0
  have q0 : decide ((s : Int) < 0) = false := decide_eq_false (by omega)
  have q1 : decide ((x.modes.length : Int) ≤ (s : Int)) = false := decide_eq_false (by omega)
  have q1n : decide (x.modes.length ≤ s) = false := decide_eq_false (by omega)
  clear h hr hR K0 hW0 b0 hlx hM8 hE24 hs hz0 hes
  generalize (imgCells v x).toArray = il at *
  obtain ⟨c2, _⟩ := HI.out W0 (Keep.refl _ _)
  go_enter Tryd.func44, Tryd.ntmps44
  go_wp2_with (first | rw [HW.out] | (refine wpList_make1 rfl (.tmp 12) (.tmp 12) 40 rfl 3 (.int .i64 0) 8 Tryd.underlying40 (by kernel_rfl) rfl x.modes.length rfl rfl (by have := HM8.out; omega) (by have := HM8.out; omega) ?_))
  have DT : Blk (W0.alloc (.cells (Array.replicate x.modes.length (.int .i64 0)) 3)) W0.heap.size 3 (Array.replicate x.modes.length (.int .i64 0)) := Blk.new _ _ _
  have hS : Keep [] W0 (W0.alloc (.cells (Array.replicate x.modes.length (.int .i64 0)) 3)) := (Keep.refl [] W0).alloc _
  obtain ⟨gT, hg⟩ : ∃ g, W0.heap.size = g := ⟨_, rfl⟩
  rw [hg] at DT
  have hgT : W0.heap.size ≤ gT := by omega
  rw [hg]
  generalize W0.alloc (.cells (Array.replicate x.modes.length (.int .i64 0)) 3) = wf at *
  rw [show Array.replicate x.modes.length (Value.int .i64 0) = (List.replicate x.modes.length (Value.int .i64 0)).toArray from by simp] at DT
  rw [tickL_rep, iniB_zero] at DT
  have HDT := Lib.hid DT
  have HKF := Lib.hid hS
  have HGG := Lib.hid hgT
  clear DT hS hgT hg c2
  go_loopw [6] (fun vi wr => ∃ j : Nat, j ≤ x.modes.length ∧ vi = .int .i64 (j : Int) ∧ Blk wr gT 3 (tickL (iniB j) x.modes.length).toArray ∧ Keep [] W0 wr) (fun vi _ => x.modes.length - (intOf vi).toNat)
  case atStart => exact ⟨0, Nat.zero_le _, rfl, HDT.out, HKF.out⟩
  case round =>
    obtain ⟨j, hj, rfl, hT, hK⟩ := hrel
    have hM8 := HM8.out
    have hgg := HGG.out
    by_cases hlt : j < x.modes.length
    · have p0 : (0 : Int) ≤ (j : Int) := by omega
      have p1 : (j : Int) < (x.modes.length : Int) := by omega
      have p2 : decide ((j : Int) < (x.modes.length : Int)) = true := decide_eq_true p1
      have cT := hT.at_ (tickL_at (iniB j) hlt)
      have fT := hT.frozen j
      have hT2 := hT.set_ j (.int .i64 (-1))
      rw [tickL_set, iniB_step] at hT2
      have K2 : Keep [] W0 (wr.setCell ⟨gT, j, none⟩ (.int .i64 (-1))) := hK.trans (keep_set wr gT j _) (fun y hy hlt => by simp at hy; omega)
      have HALL := Lib.hid (And.intro hT2 K2)
      clear hT hK hT2 K2
      go_wp2
      go_roundw
      case rel => exact ⟨j + 1, by omega, by go_num, HALL.out.1, HALL.out.2⟩
      case measure => simp [intOf] <;> omega
    · obtain rfl : j = x.modes.length := by omega
      have p2 : decide ((x.modes.length : Int) < (x.modes.length : Int)) = false := by simp
      have hs := HS.out
      have r0 : (0 : Int) ≤ (s : Int) := by omega
      have r1 : (s : Int) < (x.modes.length : Int) := by omega
      have cT := hT.at_ (tickL_at (iniB x.modes.length) hs)
      have fT := hT.frozen s
      have hT3 := hT.set_ s (.int .i64 0)
      rw [tickL_set, iniB_upd] at hT3
      have K3 : Keep [] W0 (wr.setCell ⟨gT, s, none⟩ (.int .i64 0)) := hK.trans (keep_set wr gT s _) (fun y hy hlt => by simp at hy; omega)
      obtain ⟨w3, hw3⟩ : ∃ w3, wr.setCell ⟨gT, s, none⟩ (.int .i64 0) = w3 := ⟨_, rfl⟩
      rw [hw3] at hT3 K3
      have HALL := Lib.hid (And.intro hT3 K3)
      have HW3 := Lib.hid hw3
      clear hT hK hT3 K3 hw3
      go_wp2_with (rw [HW3.out])
      go_loopw [7] (fun vi wr => ∃ k : Nat, k ≤ x.modes.length ∧ vi = .int .i64 (k : Int) ∧ Blk wr gT 3 (tickL (levels es (upd (fun _ => -1) s 0) k) x.modes.length).toArray ∧ Keep [] W0 wr) (fun vi _ => x.modes.length - (intOf vi).toNat)
      case atStart => exact ⟨0, Nat.zero_le _, rfl, HALL.out.1, HALL.out.2⟩
      case round =>
        clear q0 q1 q1n cT fT
        obtain ⟨k, hk, rfl, hT, hK⟩ := hrel
        by_cases hlt2 : k < x.modes.length
        · have p0 : (0 : Int) ≤ (k : Int) := by omega
          have p1 : (k : Int) < (x.modes.length : Int) := by omega
          have p3 : decide ((k : Int) < (x.modes.length : Int)) = true := decide_eq_true p1
          have HST : Hid (levels es (upd (fun _ => -1) s 0) (k + 1) = levelL es (k : Int) (levels es (upd (fun _ => -1) s 0) k)) := rfl
          generalize levels es (upd (fun _ => -1) s 0) k = P0 at *
          have HA2 := Lib.hid (And.intro hT hK)
          clear hT hK
          go_wp2
          go_loopw [8] (fun vi wr => ∃ i : Nat, i ≤ x.edges.length ∧ vi = .int .i64 (i : Int) ∧ Blk wr gT 3 (tickL (levelL (es.take i) (k : Int) P0) x.modes.length).toArray ∧ Keep [] W0 wr) (fun vi _ => x.edges.length - (intOf vi).toNat)
          case atStart => exact ⟨0, Nat.zero_le _, rfl, HA2.out.1, HA2.out.2⟩
          case round =>
            obtain ⟨i, hi, rfl, hT, hK⟩ := hrel
            obtain ⟨_, c3⟩ := HI.out wr hK
            have hE24 := HE24.out
            by_cases hlt3 : i < x.edges.length
            · obtain ⟨eb, eo, heA, hec⟩ := HEd.out i hlt3
              have hce := hec wr hK
              have hrg := HRng.out i hlt3
              obtain ⟨en, el, hat⟩ := HAt.out i hlt3
              have HL23 := Lib.hid (HELn.out i hlt3)
              have HEone : Hid (∀ u ∈ edgCells x.edges[i], u.oneCell' = true) := iv_one _
              have hg0 : Hid ((edgCells x.edges[i])[0]? = some (.int .i64 x.edges[i].frm)) := show _ = _ from rfl
              have hg1 : Hid ((edgCells x.edges[i])[1]? = some (.int .i64 x.edges[i].to)) := show _ = _ from rfl
              rw [heA] at c3
              have p4 : (0 : Int) ≤ (i : Int) := by omega
              have p5 : (i : Int) < (x.edges.length : Int) := by omega
              have p6 : decide ((i : Int) < (x.edges.length : Int)) = true := decide_eq_true p5
              generalize edgCells x.edges[i] = ec at *
              generalize x.edges[i].frm = fr at *
              generalize x.edges[i].to = to_ at *
              obtain ⟨u, rfl⟩ : ∃ u : Nat, fr = (u : Int) := ⟨fr.toNat, by omega⟩
              obtain ⟨vv, rfl⟩ : ∃ vv : Nat, to_ = (vv : Int) := ⟨to_.toNat, by omega⟩
              rw [Int.toNat_natCast, Int.toNat_natCast] at hat
              have hu : u < x.modes.length := by omega
              have hv : vv < x.modes.length := by omega
              have HRT := Lib.hid (levelL_take es (k : Int) P0 hat)
              generalize levelL (es.take i) (k : Int) P0 = o at *
              have HT := Lib.hid hT
              have HK := Lib.hid hK
              have hcE := Lib.hid hce
              have hgl := hT.lt
              clear hec hce hat hT hK heA hrg
              go_wp2_with (first
                | (refine wpList_load_agg rfl 45 (.tmp 51) rfl rfl (cs := ec) (by rw [HL23.out]; exact agg_edge23) hcE.out ?_)
                | (refine stop_store 45 (.tmp 9) (.tmp 52) rfl ?_))
              constructor
              refine wpList_store_all rfl 45 (.tmp 9) (.tmp 52) rfl rfl rfl (vs := ec) (by rw [HL23.out]; exact agg_edge23.2) (Blk.new _ _ _) HEone.out ?_ ?_
              · rw [HL23.out]; rfl
              intro w4 d4 k4
              have k34 : Keep [] wr w4 := ((Keep.refl [] wr).alloc _).trans k4 (fun y hy hlt => by simp at hy; omega)
              have hK4 := HK.out.then k34
              have hT4 := HT.out.keep0 k34
              have e0 := d4.at_ hg0.out
              have e1 := d4.at_ hg1.out
              have tu := hT4.at_ (tickL_at o hu)
              have tv := hT4.at_ (tickL_at o hv)
              have fv := hT4.frozen vv
              have r2 : (0 : Int) ≤ (u : Int) := by omega
              have r3 : (u : Int) < (x.modes.length : Int) := by omega
              have r4 : (0 : Int) ≤ (vv : Int) := by omega
              have r5 : (vv : Int) < (x.modes.length : Int) := by omega
              have hT5 := hT4.set_ vv (.int .i64 ((k : Int) + 1))
              rw [tickL_set] at hT5
              have K5 : Keep [] W0 (w4.setCell ⟨gT, vv, none⟩ (.int .i64 ((k : Int) + 1))) := hK4.trans (keep_set w4 gT vv _) (fun y hy hlt => by simp at hy; omega)
              obtain ⟨w5, hw5⟩ : ∃ w5, w4.setCell ⟨gT, vv, none⟩ (.int .i64 ((k : Int) + 1)) = w5 := ⟨_, rfl⟩
              rw [hw5] at hT5 K5
              have HW5 := Lib.hid hw5
              have HA5 := Lib.hid (And.intro hT5 K5)
              have HA4 := Lib.hid (And.intro hT4 hK4)
              clear k34 d4 k4 hcE c3 hT4 hK4 hT5 K5 hw5
              by_cases hc1 : o u = (k : Int)
              · by_cases hc2 : o vv < 0
                · have z1 : (o u == (k : Int)) = true := by simp; exact hc1
                  have z2 : decide (o vv < 0) = true := decide_eq_true hc2
                  have z3 : decide (o u = (k : Int)) = true := decide_eq_true hc1
                  have HL : Hid (lev (k : Int) o ⟨u, vv, en, el⟩ = upd o vv ((k : Int) + 1)) := by show _ = _; unfold lev; rw [if_pos ⟨hc1, hc2⟩]
                  clear hc1
                  go_wp2_with (rw [HW5.out])
                  go_roundw
                  case rel => exact ⟨i + 1, by omega, by go_num, by rw [HRT.out, HL.out]; exact HA5.out.1, HA5.out.2⟩
                  case measure => simp [intOf] <;> omega
                · have z1 : (o u == (k : Int)) = true := by simp; exact hc1
                  have z2 : decide (o vv < 0) = false := decide_eq_false hc2
                  have z3 : decide (o u = (k : Int)) = true := decide_eq_true hc1
                  have HL : Hid (lev (k : Int) o ⟨u, vv, en, el⟩ = o) := by show _ = _; unfold lev; rw [if_neg (fun h => hc2 h.2)]
                  clear hc1
                  go_wp2
                  go_roundw
                  case rel => exact ⟨i + 1, by omega, by go_num, by rw [HRT.out, HL.out]; exact HA4.out.1, HA4.out.2⟩
                  case measure => simp [intOf] <;> omega
              · have z1 : (o u == (k : Int)) = false := by simp; exact hc1
                have z3 : decide (o u = (k : Int)) = false := decide_eq_false hc1
                have HL : Hid (lev (k : Int) o ⟨u, vv, en, el⟩ = o) := by show _ = _; unfold lev; rw [if_neg (fun h => hc1 h.1)]
                clear hc1
                go_wp2
                go_roundw
                case rel => exact ⟨i + 1, by omega, by go_num, by rw [HRT.out, HL.out]; exact HA4.out.1, HA4.out.2⟩
                case measure => simp [intOf] <;> omega
            · obtain rfl : i = x.edges.length := by omega
              have p6 : decide ((x.edges.length : Int) < (x.edges.length : Int)) = false := by simp
              have htk : es.take x.edges.length = es := List.take_of_length_le (by rw [HEL.out]; exact Nat.le_refl _)
              rw [htk] at hT
              have HA := Lib.hid (And.intro hT hK)
              clear hT hK htk
              go_wp2
              go_roundw
              case rel => exact ⟨k + 1, by omega, by go_num, by rw [HST.out]; exact HA.out.1, HA.out.2⟩
              case measure => simp [intOf] <;> omega
        · obtain rfl : k = x.modes.length := by omega
          have p3 : decide ((x.modes.length : Int) < (x.modes.length : Int)) = false := by simp
          have HA := Lib.hid (And.intro hT hK)
          clear hT hK
          go_wp2
          go_ret
          exact ⟨gT, rfl, HA.out.1, HK0.out.then HA.out.2⟩
end Go.Proofs.YteocldlglklnjaaDoor

namespace Go.Proofs.YteocldlglklnjaaDoor
open Go.RowKit
attribute [local go_sem] Oper.semAt_some

/-- A set of modes is answered: just those of p. -/
def RetSet (w : World) (p : Nat → Prop) (e : Ending) (w' : World) : Prop := ∃ r : Nat, e = .returned (.int .u32 (r : Int)) ∧ r < 4294967296 ∧ (∀ v, v < 32 → (r.testBit v = true ↔ p v)) ∧ Keep [] w w'
def reachL (o : Nat → Int) (k : Nat) : List Int := ((List.range k).filter (fun i => decide (0 ≤ o i))).map Int.ofNat
theorem reachL_zero (o : Nat → Int) : reachL o 0 = [] := rfl
theorem reachL_le (o : Nat → Int) (k : Nat) : (reachL o k).length ≤ k := by
  unfold reachL
  rw [List.length_map]
  have := List.length_filter_le (fun i => decide (0 ≤ o i)) (List.range k)
  rwa [List.length_range] at this
theorem reachL_yes {o : Nat → Int} {k : Nat} (h : 0 ≤ o k) : reachL o (k + 1) = reachL o k ++ [(k : Int)] := by
  unfold reachL
  rw [List.range_succ, List.filter_append, List.map_append]
  simp [h]
theorem reachL_no {o : Nat → Int} {k : Nat} (h : ¬ 0 ≤ o k) : reachL o (k + 1) = reachL o k := by
  unfold reachL
  rw [List.range_succ, List.filter_append, List.map_append]
  simp [h]
theorem reachL_mem {o : Nat → Int} {k v : Nat} : (v : Int) ∈ reachL o k ↔ v < k ∧ 0 ≤ o v := by
  unfold reachL
  constructor
  · intro h
    obtain ⟨a, ha, he⟩ := List.mem_map.1 h
    obtain rfl : a = v := Int.ofNat_inj.1 he
    simpa using ha
  · intro h
    exact List.mem_map.2 ⟨v, by simpa using h, rfl⟩
set_option maxRecDepth 100000 in
set_option maxHeartbeats 4000000 in
theorem rreach_of (v : ImgV) (x : Img) (fr : Int) (o : Nat → Int) (w : World) (h : ImgAt w v x) (hM8 : x.modes.length ≤ 8)
    (hst : ∀ W, ImgAt W v x → Calls Tryd.prog 44 #[.agg (imgCells v x).toArray, .int .i64 fr] W (RetRow W o x.modes.length)) :
    Calls Tryd.prog 23 #[.agg (imgCells v x).toArray, .int .i64 fr] w (RetSet w (fun a => a < x.modes.length ∧ 0 ≤ o a)) := by
  obtain ⟨W0, hW0⟩ : ∃ W0, w.alloc (.cells (imgCells v x).toArray 26) = W0 := ⟨_, rfl⟩
  have b0 : Blk W0 w.heap.size 26 (imgCells v x).toArray := by rw [← hW0]; exact img_box w v x
  have K0 : Keep [] w W0 := by rw [← hW0]; exact (Keep.refl [] w).alloc _
  have hz0 : W0.heap.size = w.heap.size + 1 := by rw [← hW0]; simp
  have HI : Hid (∀ w', Keep [] W0 w' → w'.cell? ⟨w.heap.size, 2, none⟩ = some (.slice v.ma x.modes.length v.mc) ∧ w'.cell? ⟨w.heap.size, 3, none⟩ = some (.slice v.ea x.edges.length v.ec)) := fun w' hk => ⟨img_c2 (b0.keep0 hk), img_c3 (b0.keep0 hk)⟩
  have HIC : Hid ((imgCells v x).length = 4) := show _ = _ from rfl
  have HIr : Hid (CellsAt W0 w.heap.size 0 (imgCells v x)) := b0.cellsAt
  have HST := Lib.hid (hst W0 (h.keep0 K0))
  have HK0 := Lib.hid K0
  have HW := Lib.hid hW0
  have HM8 := Lib.hid hM8
  clear K0 hW0 b0 hM8 hz0 HI hst h
  generalize imgCells v x = il at *
  generalize x.modes.length = M at *
  go_enter Tryd.func23, Tryd.ntmps23
  go_wp2_with (first | rw [HW.out] | (refine wpList_load_agg rfl 26 (.tmp 2) rfl rfl (cs := il) (by rw [HIC.out]; exact agg_image) HIr.out ?_))
  refine HST.out.mono ?_
  rintro e w1 ⟨gO, rfl, hO, k1⟩
  have HO := Lib.hid hO
  have HK1 := Lib.hid k1
  clear hO k1 HST HIr
  go_wp2
  go_loopw [6, 7] (fun vv i wr => ∃ k : Nat, k ≤ M ∧ i = .int .i64 (k : Int) ∧ OwnInts w1 wr vv (reachL o k)) (fun _ i _ => M - (intOf i).toNat)
  case atStart => exact ⟨0, Nat.zero_le _, rfl, OwnInts.nil w1⟩
  case round =>
    obtain ⟨k, hk, rfl, hown⟩ := hrel
    have hM8 := HM8.out
    have hl := reachL_le o k
    by_cases hlt : k < M
    · have c0 := (HO.out.keep0 hown.2).at_ (tickL_at o hlt)
      have p0 : (0 : Int) ≤ (k : Int) := by omega
      have p1 : (k : Int) < (M : Int) := by omega
      have p2 : decide ((k : Int) < (M : Int)) = true := decide_eq_true p1
      by_cases ho : 0 ≤ o k
      · have q : decide (0 ≤ o k) = true := decide_eq_true ho
        have HN := Lib.hid (reachL_yes ho)
        clear ho
        go_wp2_with (at_builtin; refine wpList_append_one rfl (.tmp 22) (.tmp 24) 40 rfl slice_int hown.1 rfl rfl (us := [.int .i64 (k : Int)]) rfl (by simp [Value.oneCell']) hown.2.size (by omega) (by unfold maxLen; omega) ?_; intro v' w2 hown2 hgrow2 hat2)
        have R := hown.app hown2 hgrow2
        go_roundw
        case rel => exact ⟨k + 1, by omega, by go_num, by rw [HN.out]; exact R⟩
        case measure => simp [intOf]; omega
      · have q : decide (0 ≤ o k) = false := decide_eq_false ho
        have HN := Lib.hid (reachL_no ho)
        clear ho
        go_wp2
        go_roundw
        case rel => exact ⟨k + 1, by omega, by go_num, by rw [HN.out]; exact hown⟩
        case measure => simp [intOf]; omega
    · obtain rfl : k = M := by omega
      have p2 : decide ((k : Int) < (k : Int)) = false := by simp
      obtain ⟨A, c, rfl⟩ := own_shape hown.1
      have HOF := Lib.hid (of_any A _ c (reachL o k) wr (Reads.of_own hown.1) (by unfold maxLen; omega))
      have HK := Lib.hid hown.2
      have HT := Lib.hid (fun n => ofN_testBit (reachL o k) 32 n)
      have HLT := Lib.hid (ofN_lt (reachL o k) 32)
      have HME := Lib.hid (fun a => @reachL_mem o k a)
      clear hown hl
      generalize reachL o k = L at *
      generalize L.length = n at *
      go_wp2_with (go_at_call 45; refine HOF.out.mono ?_; rintro e w3 ⟨rfl, rfl⟩)
      go_ret
      refine ⟨ofN L 32, rfl, HLT.out, fun a ha => ?_, (HK0.out.then HK1.out).then HK.out⟩
      show _ ↔ a < k ∧ 0 ≤ o a
      rw [HT.out, ← HME.out]
      simp [ha]
theorem rreach_no (v : ImgV) (x : Img) (fr : Int) (w : World) (h : ImgAt w v x) (hr : (chkImg x).2 = 0) (hno : fr < 0 ∨ (x.modes.length : Int) ≤ fr) :
    Calls Tryd.prog 23 #[.agg (imgCells v x).toArray, .int .i64 fr] w (RetSet w (fun _ => False)) := by
  have hM8 := (right_of hr).nm.2
  refine (rreach_of v x fr _ w h hM8 (fun W _ => steps_no v x fr W hM8 hno)).mono ?_
  rintro e w' ⟨r, h1, h2, h3, h4⟩
  exact ⟨r, h1, h2, fun a ha => by rw [h3 a ha]; simp, h4⟩
theorem egs_ends {x : Img} {es : List Eg} (hr : (chkImg x).2 = 0) (hes : EgsOf x es) : ∀ e ∈ es, e.u < x.modes.length ∧ e.v < x.modes.length := by
  intro e he
  obtain ⟨i, hi, rfl⟩ := List.getElem_of_mem he
  have hi2 : i < x.edges.length := by rw [← hes.len]; exact hi
  obtain ⟨n, l, h1⟩ := hes.at_ i hi2
  rw [List.getElem?_eq_getElem hi] at h1
  injection h1 with h1
  rw [h1]
  have h2 := ((right_of hr).edgeIn i hi2).1
  have h3 := ((right_of hr).edgeIn i hi2).2.1
  simp only
  omega
theorem rreach_yes (v : ImgV) (x : Img) (es : List Eg) (s : Nat) (w : World) (h : ImgAt w v x) (hr : (chkImg x).2 = 0) (hes : EgsOf x es) (hs : s < x.modes.length) :
    Calls Tryd.prog 23 #[.agg (imgCells v x).toArray, .int .i64 (s : Int)] w (RetSet w (fun a => Gets es s a)) := by
  have hM8 := (right_of hr).nm.2
  refine (rreach_of v x s _ w h hM8 (fun W hW => steps_yes v x es s W hW hr hes hs)).mono ?_
  rintro e w' ⟨r, h1, h2, h3, h4⟩
  have hv := fun e he => (egs_ends hr hes e he).2
  have hall := levels_all hs hv (levels_ok (levels_start es s) x.modes.length)
  refine ⟨r, h1, h2, fun a ha => ?_, h4⟩
  refine (h3 a ha).trans ?_
  show (_ ∧ 0 ≤ levels es (upd (fun _ => -1) s 0) x.modes.length a) ↔ Gets es s a
  rw [hall a]
  exact ⟨fun h => h.2, fun h => ⟨by obtain ⟨p, hp⟩ := h; exact (way_in hs hv hp).1, h⟩⟩
end Go.Proofs.YteocldlglklnjaaDoor
