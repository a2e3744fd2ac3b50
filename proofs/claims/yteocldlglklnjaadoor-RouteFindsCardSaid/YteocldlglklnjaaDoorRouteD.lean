/- The edges by which one comes to a mode (route's edges). Condition: an image that may be. The way from a mode to another one (route's Find). Condition: an image that may be, a certificate of small numbers. The way from a mode to another one (route's Find): there is one, or none. Condition: an image that may be, a certificate of small numbers. -/
import Derived.Test.YteocldlglklnjaaDoorRouteA
namespace Go.Proofs.YteocldlglklnjaaDoor
open Go.RowKit
attribute [local go_sem] Oper.semAt_some

theorem ch_inv {es : List Eg} {b : Nat → Option Nat} {v : Nat} {L : List Nat} (h : Ch es b v L) : (b v = none ∧ L = []) ∨ ∃ i e l, b v = some i ∧ es[i]? = some e ∧ Ch es b e.u l ∧ L = l ++ [i] := by
  cases h with
  | nil h => exact .inl ⟨h, rfl⟩
  | snoc h1 h2 h3 => exact .inr ⟨_, _, _, h1, h2, h3, rfl⟩
def lenV (v : Value) : Nat := match v with | .slice _ n _ => n | _ => 0
theorem natsR_one (l : List Nat) : ∀ u ∈ natsV l, u.oneCell' = true := fun u hu => by
  obtain ⟨n, _, rfl⟩ := List.mem_map.1 hu
  rfl
def RetEdges (w : World) (L : List Nat) (e : Ending) (w' : World) : Prop := ∃ A c, e = .returned (.slice A L.length c) ∧ w'.ownsRow w.heap.size 3 1 (.slice A L.length c) L.length (natsV L) ∧ Keep [] w w'
set_option maxRecDepth 100000 in
set_option maxHeartbeats 4000000 in
theorem edges_any (v : ImgV) (x : Img) (c : Crt) (gB : Nat) (B : Nat → Option Nat) (a : Nat) (L : List Nat) (w : World) (h : ImgAt w v x) (hr : (chkImg x).2 = 0) (hl : c.edges.length = x.edges.length) (hB : Blk w gB 3 (tickL (byF B) x.modes.length).toArray)
    (ha : a < x.modes.length) (hch : Ch (egs x c) B a L) (hL : L.length ≤ 100) :
    Calls Tryd.prog 43 #[.agg (imgCells v x).toArray, .slice (some ⟨gB, 0, none⟩) x.modes.length x.modes.length, .int .i64 (a : Int)] w (RetEdges w L) := by
  have hR := right_of hr
  have hM8 := hR.nm.2
  have hE24 := hR.ne
  have hlx := h.le
  unfold maxLen at hlx
  obtain ⟨W0, hW0⟩ : ∃ W0, w.alloc (.cells (imgCells v x).toArray 26) = W0 := ⟨_, rfl⟩
  have b0 : Blk W0 w.heap.size 26 (imgCells v x).toArray := by rw [← hW0]; exact img_box w v x
  have K0 : Keep [] w W0 := by rw [← hW0]; exact (Keep.refl [] w).alloc _
  have hz0 : W0.heap.size = w.heap.size + 1 := by rw [← hW0]; simp
  have HI3 : Hid (∀ w', Keep [] W0 w' → w'.cell? ⟨w.heap.size, 3, none⟩ = some (.slice v.ea x.edges.length v.ec)) := fun w' hk => img_c3 (b0.keep0 hk)
  have HBy : Hid (∀ w', Keep [] W0 w' → ∀ i, i < x.modes.length → w'.cell? ⟨gB, i, none⟩ = some (.int .i64 (byV (B i)))) := fun w' k i hi => ((hB.keep0 K0).keep0 k).at_ (tickL_at (byF B) hi)
  have HEd : Hid (∀ i, (hi : i < x.edges.length) → ∃ b o, v.ea = some ⟨b, o, none⟩ ∧ ∀ w', Keep [] W0 w' → w'.cell? ⟨b, o + i * 23, none⟩ = some (.int .i64 x.edges[i].frm)) := fun i hi => by
    obtain ⟨b, o, hA, hbw, hcs⟩ := h.edge (by omega)
    refine ⟨b, o, hA, fun w' k => ?_⟩
    have := ((hcs i hi).keep0 (K0.then k) hbw) 0 (.int .i64 x.edges[i].frm) rfl
    rwa [Nat.add_zero] at this
  have HRng : Hid (∀ i, (hi : i < x.edges.length) → 0 ≤ x.edges[i].frm ∧ x.edges[i].frm < x.modes.length) := fun i hi => (hR.edgeIn i hi).1
  have HAt : Hid (∀ i (e : Eg), (egs x c)[i]? = some e → ∃ (hi : i < x.edges.length), e.u = x.edges[i].frm.toNat) := fun i e he => by
    have hi := (List.getElem?_eq_some_iff.1 he).1
    rw [egs_len hl] at hi
    rw [egs_at hi (by omega)] at he
    injection he with he
    exact ⟨hi, by rw [← he]⟩
  have HK0 := Lib.hid K0
  have HW := Lib.hid hW0
  have HLL := Lib.hid hL
  have HE24 := Lib.hid hE24
  have HM8 := Lib.hid hM8
  have HZ0 := Lib.hid hz0
  have HCH := Lib.hid hch
  clear h hr hB hR hlx K0 hW0 b0 hL hE24 hM8 hz0 hl hch
  generalize egs x c = es at *
  generalize imgCells v x = il at *
  go_enter Tryd.func43, Tryd.ntmps43
  go_wp2_with (rw [HW.out])
  go_loopw [7, 8] (fun ov av wr => ∃ (a : Nat) (L1 L2 : List Nat), a < x.modes.length ∧ av = .int .i64 (a : Int) ∧ L = L1 ++ L2 ∧ Hid (Ch es B a L1) ∧ wr.ownsRow W0.heap.size 3 1 ov L2.length (natsV L2) ∧ Keep [] W0 wr) (fun ov _ _ => L.length - lenV ov)
  case atStart => exact ⟨a, L, [], ha, rfl, by simp, HCH, World.ownsRow_nil _ _ _ _, Keep.refl _ _⟩
  case round =>
    clear ha
    obtain ⟨a, L1, L2, ha, rfl, hLL, hch, hrow, hK⟩ := hrel
    have hcb := HBy.out wr hK a ha
    have p0 : (0 : Int) ≤ (a : Int) := by omega
    have p1 : (a : Int) < (x.modes.length : Int) := by omega
    obtain ⟨A, cp, rfl⟩ := own_shape hrow
    have hlen : L2.length ≤ 100 := by have := HLL.out; rw [hLL, List.length_append] at this; omega
    rcases ch_inv hch.out with ⟨hb, rfl⟩ | ⟨i, e, l, hb, hei, hcl, rfl⟩
    · rw [hb] at hcb
      have hcb : wr.cell? ⟨gB, a, none⟩ = some (.int .i64 (-1)) := hcb
      rw [List.nil_append] at hLL
      subst hLL
      have HR := Lib.hid hrow
      have HK := Lib.hid hK
      clear hrow hK hch hb
      go_wp2
      go_ret
      have hz0 := HZ0.out
      exact ⟨A, cp, rfl, own_base HR.out (by omega), HK0.out.then HK.out⟩
    · obtain ⟨hi, hu⟩ := HAt.out i e hei
      obtain ⟨eb, eo, heA, hfr⟩ := HEd.out i hi
      have hrg := HRng.out i hi
      have hE24 := HE24.out
      rw [hb] at hcb
      have hcb : wr.cell? ⟨gB, a, none⟩ = some (.int .i64 (i : Int)) := hcb
      have q0 : (0 : Int) ≤ (i : Int) := by omega
      have q1 : (i : Int) < (x.edges.length : Int) := by omega
      have HCL := Lib.hid hcl
      have HEI := Lib.hid hei
      have HB' := Lib.hid hb
      have HLE : Hid (L = l ++ (i :: L2)) := by show _ = _; rw [hLL]; simp
      generalize hfe : x.edges[i].frm = fr at *
      obtain ⟨u, rfl⟩ : ∃ u : Nat, fr = (u : Int) := ⟨fr.toNat, by omega⟩
      rw [Int.toNat_natCast] at hu
      have HU := Lib.hid hu
      have HK := Lib.hid hK
      have HROW := Lib.hid hrow
      clear hrow hcl hei hb hch hK hfe hu hLL
      go_wp2_with (refine stop_at 30 rfl ?_)
      constructor
      have hlit : (wr.alloc (.cells #[.int .i64 (i : Int)] 3)).ownsRow wr.heap.size 3 1 (.slice (some ⟨wr.heap.size, 0, none⟩) 1 1) 1 [.int .i64 (i : Int)] :=
        World.ownsRow_lit (base := wr.heap.size) (e := 3) (size := 1) wr #[.int .i64 (i : Int)] 1 (Nat.le_refl _) (by decide) rfl
      have ka : Keep [] wr (wr.alloc (.cells #[.int .i64 (i : Int)] 3)) := (Keep.refl _ _).alloc _
      have hrd := (Reads.of_own HROW.out).keep0 ka
      refine wpList_append_reads rfl (.tmp 28) (.tmp 29) 40 rfl slice_intW hlit rfl hrd rfl (natsR_one L2) (by simp) (by omega) (by unfold maxLen; omega) ?_
      intro v' w2 hown hk2 _
      obtain ⟨A2, c2, rfl⟩ := own_shape hown
      have K2 : Keep [] wr w2 := ka.trans hk2 (fun y hy hlt => by simp [Value.ownBlock] at hy; omega)
      have hKs := HK.out.size
      have hown2 : w2.ownsRow W0.heap.size 3 1 (.slice A2 (1 + L2.length) c2) (i :: L2).length (natsV (i :: L2)) := by
        have := own_base hown hKs
        rw [show (i :: L2).length = 1 + L2.length by rw [List.length_cons]; omega]
        exact this
      have hF : ∀ w', Keep [] w2 w' → w'.cell? ⟨w.heap.size, 3, none⟩ = some (.slice (some ⟨eb, eo, none⟩) x.edges.length v.ec) ∧ w'.cell? ⟨gB, a, none⟩ = some (.int .i64 (i : Int)) ∧ w'.cell? ⟨eb, eo + i * 23, none⟩ = some (.int .i64 (u : Int)) := fun w' k => by
        have K := HK.out.then (K2.then k)
        refine ⟨?_, ?_, hfr w' K⟩
        · rw [← heA]; exact HI3.out w' K
        · have := HBy.out w' K a ha
          rw [HB'.out] at this
          exact this
      have HO := Lib.hid hown2
      have HK2 := Lib.hid (HK.out.then K2)
      clear hown hown2 hk2 K2 hlit ka hrd hcb heA hfr
      go_wp2
      refine ap_begin 9 (Keep [] w2) rfl (Keep.refl _ _).drew (fun hS hPan => ?_) (fun _ _ d _ _ h => by cases d <;> exact h)
      (refine ap_val (v := ?_) 0 rfl (by kernel_rfl) (by kernel_rfl) (by kernel_rfl) (by kernel_rfl) (by rfl) hPan ?_ hS ?_; rotate_left; (intro w' hSw; go_simp; try with_reducible rfl); simp only [Act.put, List.setIfInBounds_toArray, List.set_cons_zero, List.set_cons_succ])
      (refine ap_val (v := ?_) 1 rfl (by kernel_rfl) (by kernel_rfl) (by kernel_rfl) (by kernel_rfl) (by rfl) hPan ?_ hS ?_; rotate_left; (intro w' hSw; obtain ⟨f1,f2,f3⟩ := hF w' hSw; go_simp; try with_reducible rfl); simp only [Act.put, List.setIfInBounds_toArray, List.set_cons_zero, List.set_cons_succ])
      (refine ap_val (v := ?_) 2 rfl (by kernel_rfl) (by kernel_rfl) (by kernel_rfl) (by kernel_rfl) (by rfl) hPan ?_ hS ?_; rotate_left; (intro w' hSw; go_simp; try with_reducible rfl); simp only [Act.put, List.setIfInBounds_toArray, List.set_cons_zero, List.set_cons_succ])
      (refine ap_val (v := ?_) 3 rfl (by kernel_rfl) (by kernel_rfl) (by kernel_rfl) (by kernel_rfl) (by rfl) hPan ?_ hS ?_; rotate_left; (intro w' hSw; go_simp; try with_reducible rfl); simp only [Act.put, List.setIfInBounds_toArray, List.set_cons_zero, List.set_cons_succ])
      (refine ap_val (v := ?_) 4 rfl (by kernel_rfl) (by kernel_rfl) (by kernel_rfl) (by kernel_rfl) (by rfl) hPan ?_ hS ?_; rotate_left; (intro w' hSw; go_simp; try with_reducible rfl); simp only [Act.put, List.setIfInBounds_toArray, List.set_cons_zero, List.set_cons_succ])
      (refine ap_val (v := ?_) 5 rfl (by kernel_rfl) (by kernel_rfl) (by kernel_rfl) (by kernel_rfl) (by rfl) hPan ?_ hS ?_; rotate_left; (intro w' hSw; obtain ⟨f1,f2,f3⟩ := hF w' hSw; go_simp; try with_reducible rfl); simp only [Act.put, List.setIfInBounds_toArray, List.set_cons_zero, List.set_cons_succ])
      (refine ap_val (v := ?_) 6 rfl (by kernel_rfl) (by kernel_rfl) (by kernel_rfl) (by kernel_rfl) (by rfl) hPan ?_ hS ?_; rotate_left; (intro w' hSw; go_simp; try with_reducible rfl); simp only [Act.put, List.setIfInBounds_toArray, List.set_cons_zero, List.set_cons_succ])
      (refine ap_val (v := ?_) 7 rfl (by kernel_rfl) (by kernel_rfl) (by kernel_rfl) (by kernel_rfl) (by rfl) hPan ?_ hS ?_; rotate_left; (intro w' hSw; go_simp; try with_reducible rfl); simp only [Act.put, List.setIfInBounds_toArray, List.set_cons_zero, List.set_cons_succ])
      (refine ap_val (v := ?_) 8 rfl (by kernel_rfl) (by kernel_rfl) (by kernel_rfl) (by kernel_rfl) (by rfl) hPan ?_ hS ?_; rotate_left; (intro w' hSw; obtain ⟨f1,f2,f3⟩ := hF w' hSw; go_simp; try with_reducible rfl); simp only [Act.put, List.setIfInBounds_toArray, List.set_cons_zero, List.set_cons_succ])
      generalize w2.drew = w3 at *
      refine ap_one 9 (by kernel_rfl) ?_
      refine op_run (v := .int .i64 (u : Int)) (w' := w3) 9 rfl (by rfl) (by go_simp) ?_
      refine ⟨fun _ => hS, ap_done (by kernel_rfl) ?_ _⟩
      (simp only [Act.put, List.setIfInBounds_toArray, List.set_cons_zero, List.set_cons_succ])
      have HO3 := Lib.hid (own_keep0 HO.out hS)
      have HK3 := Lib.hid (HK2.out.then hS)
      have hLX := HLE.out
      clear hS hPan hF
      go_wp2
      go_roundw
      case rel => exact ⟨u, l, i :: L2, by omega, rfl, HLE.out, Lib.hid (by rw [← HU.out]; exact HCL.out), HO3.out, HK3.out⟩
      case measure =>
        rw [hLX]
        simp only [lenV, List.length_append, List.length_cons]
        omega
end Go.Proofs.YteocldlglklnjaaDoor

namespace Go.Proofs.YteocldlglklnjaaDoor
open Go.RowKit
attribute [local go_sem] Oper.semAt_some

theorem agg_way : AggOf Tryd.prog 70 2 := ⟨by kernel_rfl, by kernel_rfl⟩
def noWay (b : Bool) : Value := .tuple #[.agg #[.slice none 0 0, .int .i64 0], .bool b]
set_option maxRecDepth 100000 in
set_option maxHeartbeats 4000000 in
theorem find_no (v : ImgV) (x : Img) (vc : CrtV) (c : Crt) (fr to_ : Int) (w : World) (hno : fr < 0 ∨ (x.modes.length : Int) ≤ fr ∨ to_ < 0 ∨ (x.modes.length : Int) ≤ to_) :
    Calls Tryd.prog 21 #[.agg (imgCells v x).toArray, .agg (crtCells vc c).toArray, .int .i64 fr, .int .i64 to_] w fun e w' => e = .returned (noWay false) ∧ Keep [] w w' := by
  obtain ⟨W0, hW0⟩ : ∃ W0, ((w.alloc (.cells (imgCells v x).toArray 26)).alloc (.cells (crtCells vc c).toArray 30)).alloc (.cells #[.slice none 0 0, .int .i64 0] 70) = W0 := ⟨_, rfl⟩
  have b0 : Blk W0 w.heap.size 26 (imgCells v x).toArray := by rw [← hW0]; exact ((img_box w v x).alloc _).alloc _
  have b1 : Blk W0 (w.heap.size + 1) 30 (crtCells vc c).toArray := by rw [← hW0]; exact (Blk.new1 _ _ _ _).alloc _
  have b2 : Blk W0 (w.heap.size + 2) 70 #[.slice none 0 0, .int .i64 0] := by rw [← hW0]; exact Blk.new2 _ _ _ _ _
  have K0 : Keep [] w W0 := by rw [← hW0]; exact (((Keep.refl [] w).alloc _).alloc _).alloc _
  have hz0 : W0.heap.size = w.heap.size + 3 := by rw [← hW0]; simp
  have c2 := img_c2 b0
  have B2 := Lib.hid b2
  have HK0 := Lib.hid K0
  have HW := Lib.hid hW0
  clear K0 hW0 b0 b1 b2 hz0
  generalize (imgCells v x).toArray = il at *
  generalize (crtCells vc c).toArray = cl at *
  generalize x.modes.length = M at *
  by_cases h1 : fr < 0
  · have q0 : decide (fr < 0) = true := decide_eq_true h1
    clear hno
    go_enter Tryd.func21, Tryd.ntmps21
    go_wp2_with (first | rw [HW.out] | (refine stop_store 70 (.tmp 8) (.tmp 40) rfl ?_))
    constructor
    refine wpList_store_all rfl 70 (.tmp 8) (.tmp 40) rfl rfl rfl (vs := [.slice none 0 0, .int .i64 0]) agg_way.2 B2.out (by simp [Value.oneCell']) ?_ ?_
    · rfl
    intro wz dz kz
    go_wp2
    refine bodyPost_ret (results_cell_tmp rfl _ rfl rfl dz agg_way) rfl ?_
    exact ⟨rfl, HK0.out.trans kz (fun y hy hlt => by simp at hy; omega)⟩
  · have q0 : decide (fr < 0) = false := decide_eq_false h1
    by_cases h2 : (M : Int) ≤ fr
    · have q1 : decide ((M : Int) ≤ fr) = true := decide_eq_true h2
      clear hno
      go_enter Tryd.func21, Tryd.ntmps21
      go_wp2_with (first | rw [HW.out] | (refine stop_store 70 (.tmp 8) (.tmp 40) rfl ?_))
      constructor
      refine wpList_store_all rfl 70 (.tmp 8) (.tmp 40) rfl rfl rfl (vs := [.slice none 0 0, .int .i64 0]) agg_way.2 B2.out (by simp [Value.oneCell']) ?_ ?_
      · rfl
      intro wz dz kz
      go_wp2
      refine bodyPost_ret (results_cell_tmp rfl _ rfl rfl dz agg_way) rfl ?_
      exact ⟨rfl, HK0.out.trans kz (fun y hy hlt => by simp at hy; omega)⟩
    · have q1 : decide ((M : Int) ≤ fr) = false := decide_eq_false h2
      by_cases h3 : to_ < 0
      · have q2 : decide (to_ < 0) = true := decide_eq_true h3
        clear hno
        go_enter Tryd.func21, Tryd.ntmps21
        go_wp2_with (first | rw [HW.out] | (refine stop_store 70 (.tmp 8) (.tmp 40) rfl ?_))
        constructor
        refine wpList_store_all rfl 70 (.tmp 8) (.tmp 40) rfl rfl rfl (vs := [.slice none 0 0, .int .i64 0]) agg_way.2 B2.out (by simp [Value.oneCell']) ?_ ?_
        · rfl
        intro wz dz kz
        go_wp2
        refine bodyPost_ret (results_cell_tmp rfl _ rfl rfl dz agg_way) rfl ?_
        exact ⟨rfl, HK0.out.trans kz (fun y hy hlt => by simp at hy; omega)⟩
      · have q2 : decide (to_ < 0) = false := decide_eq_false h3
        have h4 : (M : Int) ≤ to_ := by omega
        have q3 : decide ((M : Int) ≤ to_) = true := decide_eq_true h4
        clear hno
        go_enter Tryd.func21, Tryd.ntmps21
        go_wp2_with (first | rw [HW.out] | (refine stop_store 70 (.tmp 8) (.tmp 40) rfl ?_))
        constructor
        refine wpList_store_all rfl 70 (.tmp 8) (.tmp 40) rfl rfl rfl (vs := [.slice none 0 0, .int .i64 0]) agg_way.2 B2.out (by simp [Value.oneCell']) ?_ ?_
        · rfl
        intro wz dz kz
        go_wp2
        refine bodyPost_ret (results_cell_tmp rfl _ rfl rfl dz agg_way) rfl ?_
        exact ⟨rfl, HK0.out.trans kz (fun y hy hlt => by simp at hy; omega)⟩
set_option maxRecDepth 100000 in
set_option maxHeartbeats 4000000 in
theorem find_eq (v : ImgV) (x : Img) (vc : CrtV) (c : Crt) (s : Nat) (w : World) (hs : s < x.modes.length) :
    Calls Tryd.prog 21 #[.agg (imgCells v x).toArray, .agg (crtCells vc c).toArray, .int .i64 (s : Int), .int .i64 (s : Int)] w fun e w' => e = .returned (noWay true) ∧ Keep [] w w' := by
  obtain ⟨W0, hW0⟩ : ∃ W0, ((w.alloc (.cells (imgCells v x).toArray 26)).alloc (.cells (crtCells vc c).toArray 30)).alloc (.cells #[.slice none 0 0, .int .i64 0] 70) = W0 := ⟨_, rfl⟩
  have b0 : Blk W0 w.heap.size 26 (imgCells v x).toArray := by rw [← hW0]; exact ((img_box w v x).alloc _).alloc _
  have b1 : Blk W0 (w.heap.size + 1) 30 (crtCells vc c).toArray := by rw [← hW0]; exact (Blk.new1 _ _ _ _).alloc _
  have b2 : Blk W0 (w.heap.size + 2) 70 #[.slice none 0 0, .int .i64 0] := by rw [← hW0]; exact Blk.new2 _ _ _ _ _
  have K0 : Keep [] w W0 := by rw [← hW0]; exact (((Keep.refl [] w).alloc _).alloc _).alloc _
  have hz0 : W0.heap.size = w.heap.size + 3 := by rw [← hW0]; simp
  have c2 := img_c2 b0
  have B2 := Lib.hid b2
  have HK0 := Lib.hid K0
  have HW := Lib.hid hW0
  clear K0 hW0 b0 b1 b2 hz0
  generalize (imgCells v x).toArray = il at *
  generalize (crtCells vc c).toArray = cl at *
  generalize x.modes.length = M at *
  have q0 : decide ((s : Int) < 0) = false := decide_eq_false (by omega)
  have q1 : decide ((M : Int) ≤ (s : Int)) = false := decide_eq_false (by omega)
  have q2 : decide (M ≤ s) = false := decide_eq_false (by omega)
  go_enter Tryd.func21, Tryd.ntmps21
  go_wp2_with (first | rw [HW.out] | (refine stop_store 70 (.tmp 8) (.tmp 44) rfl ?_))
  constructor
  refine wpList_store_all rfl 70 (.tmp 8) (.tmp 44) rfl rfl rfl (vs := [.slice none 0 0, .int .i64 0]) agg_way.2 B2.out (by simp [Value.oneCell']) ?_ ?_
  · rfl
  intro wz dz kz
  go_wp2
  refine bodyPost_ret (results_cell_tmp rfl _ rfl rfl dz agg_way) rfl ?_
  exact ⟨rfl, HK0.out.trans kz (fun y hy hlt => by simp at hy; omega)⟩
/-- What is found of the way to another mode. -/
def RetWay (w : World) (es : List Eg) (s M t : Nat) (e : Ending) (w' : World) : Prop :=
  (∃ A cp L, e = .returned (.tuple #[.agg #[.slice A L.length cp, .int .i64 (HR es s M t)], .bool true]) ∧ w'.ownsRow w.heap.size 3 1 (.slice A L.length cp) L.length (natsV L) ∧ (L ≠ [] ∧ L.length ≤ 101 ∧ leads es s 0 L = some (t, HR es s M t) ∧ Gets es s t ∧ HR es s M t < farR) ∧ Keep [] w w') ∨
  (e = .returned (noWay false) ∧ (¬ Gets es s t ∧ HR es s M t = farR) ∧ Keep [] w w')
theorem chain_way {es : List Eg} {s M : Nat} {B : Nat → Option Nat} (h : EsOk es M) (hs : s < M) (hb : ByOk es s farR (DR es s M, B)) {i t : Nat} {e : Eg} (he : es[i]? = some e) (hv : e.v = t) (hD : DR es s M e.u < farR) (hH : HR es s M t = DR es s M e.u + e.l) :
    ∃ L, Ch es B e.u L ∧ leads es s 0 (L ++ [i]) = some (t, HR es s M t) := by
  obtain ⟨L, hL⟩ := hb.ch e.u
  obtain ⟨q, h1, h2, h3⟩ := ch_way hb (fun e he => (h.n e he).1) (dr_fix h hs).1 hL hD
  refine ⟨L, hL, ?_⟩
  have := leads_all he h1 h2
  rw [this, h3, hv, hH]
end Go.Proofs.YteocldlglklnjaaDoor

namespace Go.Proofs.YteocldlglklnjaaDoor
open Go.RowKit
attribute [local go_sem] Oper.semAt_some

theorem ch_det {es : List Eg} {b : Nat → Option Nat} {v : Nat} {L : List Nat} (h : Ch es b v L) : ∀ {L2 : List Nat}, Ch es b v L2 → L = L2 := by
  induction h with
  | nil hb =>
    intro L2 h2
    rcases ch_inv h2 with ⟨_, rfl⟩ | ⟨i, e, l, hb2, _⟩
    · rfl
    · rw [hb] at hb2; cases hb2
  | snoc hb he _ ih =>
    intro L2 h2
    rcases ch_inv h2 with ⟨hb2, _⟩ | ⟨i, e, l, hb2, he2, hc, rfl⟩
    · rw [hb] at hb2; cases hb2
    · rw [hb] at hb2
      injection hb2 with hb2
      subst hb2
      rw [he] at he2
      injection he2 with he2
      subst he2
      rw [ih hc]
theorem ch_nodes {es : List Eg} {b : Nat → Option Nat} {M : Nat} (hu : ∀ e ∈ es, e.u < M) {v : Nat} {L : List Nat} (h : Ch es b v L) : v < M → ∃ ns : List Nat, ns.length = L.length + 1 ∧ ns.Nodup ∧ (∀ a ∈ ns, a < M) ∧ ∀ a ∈ ns, ∃ L', Ch es b a L' ∧ L'.length ≤ L.length := by
  induction h with
  | @nil v hb => intro hv; exact ⟨[v], rfl, by simp, by simpa using hv, fun a ha => by
      obtain rfl : a = v := by simpa using ha
      exact ⟨[], .nil hb, Nat.le_refl _⟩⟩
  | @snoc v i e l hb he hc ih =>
    intro hv
    obtain ⟨ns, h1, h2, h3, h4⟩ := ih (hu e (List.mem_of_getElem? he))
    refine ⟨v :: ns, by simp [h1], ?_, fun a ha => ?_, fun a ha => ?_⟩
    · rw [List.nodup_cons]
      refine ⟨fun hm => ?_, h2⟩
      obtain ⟨L', hL', hl⟩ := h4 v hm
      have := ch_det hL' (.snoc hb he hc)
      rw [this, List.length_append, List.length_cons, List.length_nil] at hl
      omega
    · rcases List.mem_cons.1 ha with rfl | ha
      · exact hv
      · exact h3 a ha
    · rcases List.mem_cons.1 ha with rfl | ha
      · exact ⟨l ++ [i], .snoc hb he hc, Nat.le_refl _⟩
      · obtain ⟨L', hL', hl⟩ := h4 a ha
        exact ⟨L', hL', by rw [List.length_append]; omega⟩
theorem ch_len {es : List Eg} {b : Nat → Option Nat} {M : Nat} (hu : ∀ e ∈ es, e.u < M) {v : Nat} {L : List Nat} (h : Ch es b v L) (hv : v < M) : L.length < M := by
  obtain ⟨ns, h1, h2, h3, _⟩ := ch_nodes hu h hv
  have := nodup_le M ns h2 h3
  omega
set_option maxRecDepth 100000 in
set_option maxHeartbeats 8000000 in
theorem find_yes (v : ImgV) (x : Img) (vc : CrtV) (c : Crt) (s t : Nat) (w : World) (h : ImgAt w v x) (hc : CrtE w vc c) (hr : (chkImg x).2 = 0) (hl : c.edges.length = x.edges.length) (hB : edgeB c) (hs : s < x.modes.length) (ht : t < x.modes.length) (hne : t ≠ s) :
    Calls Tryd.prog 21 #[.agg (imgCells v x).toArray, .agg (crtCells vc c).toArray, .int .i64 (s : Int), .int .i64 (t : Int)] w (RetWay w (egs x c) s x.modes.length t) := by
  have hR := right_of hr
  have hM8 := hR.nm.2
  have hE24 := hR.ne
  have hok := egs_ok hr hB
  have hel := egs_len hl
  have hwf := way_found hok hs (by omega) hne
  obtain ⟨W0, hW0⟩ : ∃ W0, ((w.alloc (.cells (imgCells v x).toArray 26)).alloc (.cells (crtCells vc c).toArray 30)).alloc (.cells #[.slice none 0 0, .int .i64 0] 70) = W0 := ⟨_, rfl⟩
  have b0 : Blk W0 w.heap.size 26 (imgCells v x).toArray := by rw [← hW0]; exact ((img_box w v x).alloc _).alloc _
  have b1 : Blk W0 (w.heap.size + 1) 30 (crtCells vc c).toArray := by rw [← hW0]; exact (Blk.new1 _ _ _ _).alloc _
  have b2 : Blk W0 (w.heap.size + 2) 70 #[.slice none 0 0, .int .i64 0] := by rw [← hW0]; exact Blk.new2 _ _ _ _ _
  have K0 : Keep [] w W0 := by rw [← hW0]; exact (((Keep.refl [] w).alloc _).alloc _).alloc _
  have hz0 : W0.heap.size = w.heap.size + 3 := by rw [← hW0]; simp
  have hI0 := h.keep0 K0
  have hC0 := hc.keep0 K0
  have HTab := Lib.hid (table_any v x vc c s W0 hI0 hC0 hr hl hB hs)
  have HSp := fun (i : Nat) (hi : i < c.edges.length) w' (k : Keep [] W0 w') => Lib.hid (spans_any vc c i w' (hC0.keep0 k) hi hB)
  have HEgs := fun (gB : Nat) (B : Nat → Option Nat) (a : Nat) (L : List Nat) w' (k : Keep [] W0 w') (hb : Blk w' gB 3 (tickL (byF B) x.modes.length).toArray) (ha : a < x.modes.length) (hch : Ch (egs x c) B a L) (hL : L.length ≤ 100) => Lib.hid (edges_any v x c gB B a L w' (hI0.keep0 k) hr hl hb ha hch hL)
  have HIC : Hid ((imgCells v x).length = 4) := show _ = _ from rfl
  have HCC : Hid ((crtCells vc c).length = 2) := show _ = _ from rfl
  have HIr : Hid (∀ w', Keep [] W0 w' → CellsAt w' w.heap.size 0 (imgCells v x)) := fun w' k => (b0.keep0 k).cellsAt
  have HCr : Hid (∀ w', Keep [] W0 w' → CellsAt w' (w.heap.size + 1) 0 (crtCells vc c)) := fun w' k => (b1.keep0 k).cellsAt
  have HI3 : Hid (∀ w', Keep [] W0 w' → w'.cell? ⟨w.heap.size, 3, none⟩ = some (.slice v.ea x.edges.length v.ec)) := fun w' hk => img_c3 (b0.keep0 hk)
  have hlx := h.le
  unfold maxLen at hlx
  have HEd : Hid (∀ i, (hi : i < x.edges.length) → ∃ b o, v.ea = some ⟨b, o, none⟩ ∧ ∀ w', Keep [] W0 w' → CellsAt w' b (o + i * 23) (edgCells x.edges[i])) := fun i hi => by
    obtain ⟨b, o, hA, hbw, hcs⟩ := h.edge (by omega)
    exact ⟨b, o, hA, fun w' k => (hcs i hi).keep0 (K0.then k) hbw⟩
  have HELn : Hid (∀ i, (hi : i < x.edges.length) → (edgCells x.edges[i]).length = 23) := fun i hi => edgCells_len (h.ok.offs _ (List.getElem_mem hi)) (h.ok.mp _ (List.getElem_mem hi))
  have HRng : Hid (∀ i, (hi : i < x.edges.length) → (0 ≤ x.edges[i].frm ∧ x.edges[i].frm < x.modes.length) ∧ 0 ≤ x.edges[i].to ∧ x.edges[i].to < x.modes.length) := fun i hi => ⟨(hR.edgeIn i hi).1, (hR.edgeIn i hi).2.1⟩
  have HAt : Hid (∀ i, (hi : i < x.edges.length) → (hi2 : i < c.edges.length) → (egs x c)[i]? = some ⟨x.edges[i].frm.toNat, x.edges[i].to.toNat, c.edges[i].1 + c.edges[i].2, c.edges[i].1⟩) := fun i h1 h2 => egs_at h1 h2
  have HBd : Hid (∀ i, (hi : i < c.edges.length) → 0 ≤ c.edges[i].1 ∧ c.edges[i].1 ≤ 536870912) := fun i hi => (hB _ (List.getElem_mem hi)).1
  have c2 := img_c2 b0
  have B2 := Lib.hid b2
  have HOK := Lib.hid hok
  have HEL := Lib.hid hel
  have HL := Lib.hid hl
  have HM8 := Lib.hid hM8
  have HE24 := Lib.hid hE24
  have HWF := Lib.hid hwf
  have HK0 := Lib.hid K0
  have HW := Lib.hid hW0
  have HS := Lib.hid hs
  have HZ0 := Lib.hid hz0
  have HDR := fun u => Lib.hid (dr_gets hok hs (by omega) u)
  have q0 : decide ((s : Int) < 0) = false := decide_eq_false (by omega)
  have q1 : decide ((x.modes.length : Int) ≤ (s : Int)) = false := decide_eq_false (by omega)
  have q1n : decide (x.modes.length ≤ s) = false := decide_eq_false (by omega)
  have q2 : decide ((t : Int) < 0) = false := decide_eq_false (by omega)
  have q3 : decide ((x.modes.length : Int) ≤ (t : Int)) = false := decide_eq_false (by omega)
  have q3n : decide (x.modes.length ≤ t) = false := decide_eq_false (by omega)
  have q4 : ((s : Int) == (t : Int)) = false := by simp; omega
  have q5 : decide ((s : Int) = (t : Int)) = false := decide_eq_false (by omega)
  have q6 : decide (s = t) = false := decide_eq_false (by omega)
  have q7 : (s == t) = false := by simp; omega
  clear h hc hr hl hB hR hok hel K0 hW0 b0 b1 b2 hlx hM8 hE24 hs hz0 hI0 hC0 hwf ht
  generalize hes : egs x c = es at *
  have HES := Lib.hid hes
  clear hes
  generalize imgCells v x = il at *
  generalize crtCells vc c = cl at *
  go_enter Tryd.func21, Tryd.ntmps21
  go_wp2_with (first
    | rw [HW.out]
    | (refine wpList_load_agg rfl 26 (.tmp 4) rfl rfl (cs := il) (by rw [HIC.out]; exact agg_image) (HIr.out _ (Keep.refl _ _)) ?_)
    | (refine wpList_load_agg rfl 30 (.tmp 5) rfl rfl (cs := cl) (by rw [HCC.out]; exact agg_cert) (HCr.out _ (Keep.refl _ _)) ?_))
  refine HTab.out.mono ?_
  rintro e w1 ⟨gT, gB, B, rfl, hTB, hby, k1⟩
  have HT1 := Lib.hid hTB.t
  have HB1 := Lib.hid hTB.b
  have HBY := Lib.hid hby
  have HK1 := Lib.hid k1
  have c3 := HI3.out w1 k1
  clear hTB hby k1 HTab c2 q0 q1 q1n q2 q3 q3n q4 q5 q6 q7 hne
  have HDR2 : Hid (∀ u, 0 ≤ DR es s x.modes.length u ∧ DR es s x.modes.length u ≤ 1099511627776) := fun u => ⟨(HDR u).out.2.1, (HDR u).out.1⟩
  generalize hD : DR es s x.modes.length = D at *
  have HD := Lib.hid hD
  clear hD
  go_wp2
  go_loopw [12, 13, 55] (fun bv lv vi wr => ∃ i : Nat, i ≤ x.edges.length ∧ vi = .int .i64 (i : Int) ∧ bv = .int .i64 (bestK es D farR t i).1 ∧ lv = .int .i64 (byV (bestK es D farR t i).2) ∧ Keep [] w1 wr) (fun _ _ vi _ => x.edges.length - (intOf vi).toNat)
  case atStart => exact ⟨0, Nat.zero_le _, rfl, rfl, rfl, Keep.refl _ _⟩
  case round =>
    clear c3
    obtain ⟨i, hi, rfl, rfl, rfl, hK⟩ := hrel
    have hKW := HK1.out.then hK
    have c3 := HI3.out wr hKW
    have hE24 := HE24.out
    have hll := HL.out
    have hM8 := HM8.out
    by_cases hlt : i < x.edges.length
    · have hlt4 : i < c.edges.length := by omega
      obtain ⟨eb, eo, heA, hec⟩ := HEd.out i hlt
      have hce := hec wr hKW
      have hrg := HRng.out i hlt
      have hat := HAt.out i hlt hlt4
      have hbd := HBd.out i hlt4
      have HSpi := HSp i hlt4
      have HL23 := Lib.hid (HELn.out i hlt)
      have HEone : Hid (∀ u ∈ edgCells x.edges[i], u.oneCell' = true) := iv_one _
      have hg0 : Hid ((edgCells x.edges[i])[0]? = some (.int .i64 x.edges[i].frm)) := show _ = _ from rfl
      have hg1 : Hid ((edgCells x.edges[i])[1]? = some (.int .i64 x.edges[i].to)) := show _ = _ from rfl
      rw [heA] at c3 ⊢
      have p4 : (0 : Int) ≤ (i : Int) := by omega
      have p5 : (i : Int) < (x.edges.length : Int) := by omega
      have p6 : decide ((i : Int) < (x.edges.length : Int)) = true := decide_eq_true p5
      generalize edgCells x.edges[i] = ec at *
      generalize x.edges[i].frm = fr at *
      generalize x.edges[i].to = to_ at *
      generalize c.edges[i].1 = s1 at *
      generalize c.edges[i].2 = s2 at *
      obtain ⟨u, rfl⟩ : ∃ u : Nat, fr = (u : Int) := ⟨fr.toNat, by omega⟩
      obtain ⟨vv, rfl⟩ : ∃ vv : Nat, to_ = (vv : Int) := ⟨to_.toNat, by omega⟩
      rw [Int.toNat_natCast, Int.toNat_natCast] at hat
      have hu : u < x.modes.length := by omega
      have hdu := HDR2.out u
      have hst : bestK es D farR t (i + 1) = if vv = t ∧ D u + s1 < (bestK es D farR t i).1 then (D u + s1, some i) else bestK es D farR t i := by rw [bestK, hat]
      have HST := Lib.hid hst
      have hcE := Lib.hid hce
      have HK := Lib.hid hK
      have HKW := Lib.hid hKW
      clear hec hce hat hK hKW heA hrg hst
      generalize bestK es D farR t i = bk at *
      obtain ⟨bz, bl⟩ := bk
      simp only at HST
      go_wp2_with (first
        | (refine wpList_load_agg rfl 45 (.tmp 58) rfl rfl (cs := ec) (by rw [HL23.out]; exact agg_edge23) hcE.out ?_)
        | (refine stop_store 45 (.tmp 15) (.tmp 59) rfl ?_))
      constructor
      refine wpList_store_all rfl 45 (.tmp 15) (.tmp 59) rfl rfl rfl (vs := ec) (by rw [HL23.out]; exact agg_edge23.2) (Blk.new _ _ _) HEone.out ?_ ?_
      · rw [HL23.out]; rfl
      intro w4 d4 k4
      have k34 : Keep [] wr w4 := ((Keep.refl [] wr).alloc _).trans k4 (fun y hy hlt => by simp at hy; omega)
      have HK4 := Lib.hid (HK.out.then k34)
      have HD4 := Lib.hid d4
      have hcC := Lib.hid (HCr.out w4 (HK1.out.then HK4.out))
      have HSp4 := HSpi w4 (HK1.out.then HK4.out)
      clear d4 k4 k34 hcE HSpi c3
      go_wp2_with (refine wpList_load_agg rfl 30 (.tmp 5) rfl rfl (cs := cl) (by rw [HCC.out]; exact agg_cert) hcC.out ?_)
      refine HSp4.out.mono ?_
      rintro e w5 ⟨rfl, k5⟩
      have HK5 := Lib.hid (HK4.out.then k5)
      have D5 := HD4.out.keep0 k5
      have e0 := D5.at_ hg0.out
      have e1 := D5.at_ hg1.out
      have tu := (HT1.out.keep0 HK5.out).at_ (tickL_at D hu)
      have r2 : (0 : Int) ≤ (u : Int) := by omega
      have r3 : (u : Int) < (x.modes.length : Int) := by omega
      have hwr : IntKind.i64.wrap (D u + s1) = D u + s1 := IntWalk.i64_in _ (by omega)
      clear k5 HSp4 hcC HD4 D5
      by_cases hv : vv = t
      · subst hv
        have z1 : ((vv : Int) == (vv : Int)) = true := by simp
        by_cases hcm : D u + s1 < bz
        · have z0 : decide (D u + s1 < bz) = true := decide_eq_true hcm
          have HX : Hid (bestK es D farR vv (i + 1) = (D u + s1, some i)) := by show _ = _; rw [HST.out, if_pos ⟨rfl, hcm⟩]
          clear hcm HST
          generalize hdd : D u + s1 = dd at *
          go_wp2
          go_roundw
          case rel => exact ⟨i + 1, by omega, by go_num, by rw [HX.out], by rw [HX.out]; rfl, HK5.out⟩
          case measure => simp [intOf] <;> omega
        · have z0 : decide (D u + s1 < bz) = false := decide_eq_false hcm
          have HX : Hid (bestK es D farR vv (i + 1) = (bz, bl)) := by show _ = _; rw [HST.out, if_neg (fun h => hcm h.2)]
          clear hcm HST
          go_wp2
          go_roundw
          case rel => exact ⟨i + 1, by omega, by go_num, by rw [HX.out], by rw [HX.out], HK5.out⟩
          case measure => simp [intOf] <;> omega
      · have z1 : ((vv : Int) == (t : Int)) = false := by simp; omega
        have z2 : decide ((vv : Int) = (t : Int)) = false := decide_eq_false (by omega)
        have z3 : decide (vv = t) = false := decide_eq_false hv
        have z4 : (vv == t) = false := by simp; omega
        have HX : Hid (bestK es D farR t (i + 1) = (bz, bl)) := by show _ = _; rw [HST.out, if_neg (fun h => hv h.1)]
        clear hv HST
        go_wp2
        go_roundw
        case rel => exact ⟨i + 1, by omega, by go_num, by rw [HX.out], by rw [HX.out], HK5.out⟩
        case measure => simp [intOf] <;> omega
    · obtain rfl : i = x.edges.length := by omega
      have p6 : decide ((x.edges.length : Int) < (x.edges.length : Int)) = false := by simp
      have hel := HEL.out
      obtain ⟨hbH, hcase⟩ := HWF.out
      rw [hel] at hbH hcase
      generalize hbk : bestK es D farR t x.edges.length = bk at *
      obtain ⟨bz, bl⟩ := bk
      simp only at hbH hcase
      subst hbH
      have HKW := Lib.hid hKW
      have hK0 := Lib.hid hK
      clear hbk hK hKW hel
      rcases hcase with ⟨hg, hlt, i, e, rfl, hei, hev, hH, hDF⟩ | ⟨hg, hF, rfl⟩
      · obtain ⟨L, hch, hlead⟩ := chain_way HOK.out HS.out (by rw [HD.out]; exact HBY.out) hei hev (by rw [HD.out]; exact hDF) (by rw [HD.out]; exact hH)
        have hiE : i < x.edges.length := by have := (List.getElem?_eq_some_iff.1 hei).1; rw [HEL.out] at this; exact this
        have hat := HAt.out i hiE (by omega)
        rw [hei] at hat
        injection hat with hat
        have hu : e.u = x.edges[i].frm.toNat := by rw [hat]
        have huM := HOK.out.u e (List.mem_of_getElem? hei)
        have hLl := ch_len HOK.out.u hch huM
        have hrg := HRng.out i hiE
        obtain ⟨eb, eo, heA, hec⟩ := HEd.out i hiE
        have hfrm : x.edges[i].frm = (e.u : Int) := by omega
        have HFI := Lib.hid (And.intro hlead (And.intro hg hlt))
        have HE4 := fun w' (k : Keep [] wr w') => HEgs gB B e.u L w' (HKW.out.then k) (HB1.out.keep0 (hK0.out.then k)) huM hch (by omega)
        have hF : ∀ w', Keep [] wr w' → w'.cell? ⟨w.heap.size, 3, none⟩ = some (.slice (some ⟨eb, eo, none⟩) x.edges.length v.ec) ∧ w'.cell? ⟨eb, eo + i * 23, none⟩ = some (.int .i64 (e.u : Int)) := fun w' k => by
          have K := HKW.out.then k
          refine ⟨by rw [← heA]; exact HI3.out w' K, ?_⟩
          have := hec w' K 0 (.int .i64 x.edges[i].frm) rfl
          rw [Nat.add_zero, hfrm] at this
          exact this
        have hIr : ∀ w', Keep [] wr w' → CellsAt w' w.heap.size 0 il := fun w' k => HIr.out w' (HKW.out.then k)
        have q0 : (0 : Int) ≤ (i : Int) := by omega
        have q1 : (i : Int) < (x.edges.length : Int) := by omega
        have hbi : byV (some i) = (i : Int) := rfl
        have hzr := HKW.out.size
        have HLl := Lib.hid hLl
        clear hch hlead hg hlt hei hev hH hDF hat hu hrg hec hfrm heA hiE huM
        rw [hbi]
        generalize hhz : HR es s x.modes.length t = hz at *
        have HHZ := Lib.hid hhz
        clear hhz
        generalize e.u = u at *
        go_wp2
        refine ap_begin 12 (Keep [] wr) rfl (Keep.refl _ _).drew (fun hS hPan => ?_) (fun _ _ d _ _ h => by cases d <;> exact h)
        refine ap_agg 0 26 (.tmp 4) il rfl (by kernel_rfl) (by kernel_rfl) (by kernel_rfl) (by kernel_rfl) (by rfl) hPan rfl rfl (by rw [HIC.out]; exact agg_image) hIr hS ?_
        (simp only [Act.put, List.setIfInBounds_toArray, List.set_cons_zero, List.set_cons_succ])
        (refine ap_val (v := ?_) 1 rfl (by kernel_rfl) (by kernel_rfl) (by kernel_rfl) (by kernel_rfl) (by rfl) hPan ?_ hS ?_; rotate_left; (intro w' hSw; go_simp; try with_reducible rfl); simp only [Act.put, List.setIfInBounds_toArray, List.set_cons_zero, List.set_cons_succ])
        (refine ap_val (v := ?_) 2 rfl (by kernel_rfl) (by kernel_rfl) (by kernel_rfl) (by kernel_rfl) (by rfl) hPan ?_ hS ?_; rotate_left; (intro w' hSw; go_simp; try with_reducible rfl); simp only [Act.put, List.setIfInBounds_toArray, List.set_cons_zero, List.set_cons_succ])
        (refine ap_val (v := ?_) 3 rfl (by kernel_rfl) (by kernel_rfl) (by kernel_rfl) (by kernel_rfl) (by rfl) hPan ?_ hS ?_; rotate_left; (intro w' hSw; obtain ⟨f1,f2⟩ := hF w' hSw; go_simp; try with_reducible rfl); simp only [Act.put, List.setIfInBounds_toArray, List.set_cons_zero, List.set_cons_succ])
        (refine ap_val (v := ?_) 4 rfl (by kernel_rfl) (by kernel_rfl) (by kernel_rfl) (by kernel_rfl) (by rfl) hPan ?_ hS ?_; rotate_left; (intro w' hSw; go_simp; try with_reducible rfl); simp only [Act.put, List.setIfInBounds_toArray, List.set_cons_zero, List.set_cons_succ])
        (refine ap_val (v := ?_) 5 rfl (by kernel_rfl) (by kernel_rfl) (by kernel_rfl) (by kernel_rfl) (by rfl) hPan ?_ hS ?_; rotate_left; (intro w' hSw; go_simp; try with_reducible rfl); simp only [Act.put, List.setIfInBounds_toArray, List.set_cons_zero, List.set_cons_succ])
        (refine ap_val (v := ?_) 6 rfl (by kernel_rfl) (by kernel_rfl) (by kernel_rfl) (by kernel_rfl) (by rfl) hPan ?_ hS ?_; rotate_left; (intro w' hSw; go_simp; try with_reducible rfl); simp only [Act.put, List.setIfInBounds_toArray, List.set_cons_zero, List.set_cons_succ])
        (refine ap_val (v := ?_) 7 rfl (by kernel_rfl) (by kernel_rfl) (by kernel_rfl) (by kernel_rfl) (by rfl) hPan ?_ hS ?_; rotate_left; (intro w' hSw; obtain ⟨f1,f2⟩ := hF w' hSw; go_simp; try with_reducible rfl); simp only [Act.put, List.setIfInBounds_toArray, List.set_cons_zero, List.set_cons_succ])
        (refine ap_val (v := ?_) 9 rfl (by kernel_rfl) (by kernel_rfl) (by kernel_rfl) (by kernel_rfl) (by rfl) hPan ?_ hS ?_; rotate_left; (intro w' hSw; go_simp; try with_reducible rfl); simp only [Act.put, List.setIfInBounds_toArray, List.set_cons_zero, List.set_cons_succ])
        generalize wr.drew = wd at *
        clear hF hIr
        refine ap_two 8 10 (by kernel_rfl) ?_ ?_
        refine op_call (f := 43) 8 rfl (by rfl) rfl (by simp only [List.map_toArray, List.map_cons, List.map_nil]; rfl) Tryd.func43 (by kernel_rfl) (by kernel_rfl) (HE4 _ hS).out ?_
        rintro e2 w8 ⟨A, cp, rfl, o8, k8⟩
        have hzd := hS.size
        have O8 := own_base o8 hzd
        replace hS := hS.then k8
        refine ⟨_, rfl, fun _ => hS, ?_⟩
        clear k8 o8
        (simp only [Act.put, List.setIfInBounds_toArray, List.set_cons_zero, List.set_cons_succ])
        refine ap_one 10 (by kernel_rfl) ?_
        refine op_run (v := .slice (some ⟨w8.heap.size, 0, none⟩) 1 1) (w' := w8.alloc (.cells #[.int .i64 (i : Int)] 3)) 10 rfl (by rfl) (by go_simp) ?_
        have O9 := O8.alloc (.cells #[.int .i64 (i : Int)] 3)
        have D9 : CellsAt (w8.alloc (.cells #[.int .i64 (i : Int)] 3)) w8.heap.size 0 [.int .i64 (i : Int)] := (Blk.new w8 3 #[.int .i64 (i : Int)]).cellsAt
        have hS9 : Keep [] wr (w8.alloc (.cells #[.int .i64 (i : Int)] 3)) := hS.alloc _
        obtain ⟨gl, hgl⟩ : ∃ gl, w8.heap.size = gl := ⟨_, rfl⟩
        rw [hgl] at D9
        generalize w8.alloc (.cells #[.int .i64 (i : Int)] 3) = w9 at *
        refine ⟨fun _ => hS9, ?_⟩
        rw [hgl]
        clear hgl O8
        replace hS := hS9
        clear hS9 hzd
        (simp only [Act.put, List.setIfInBounds_toArray, List.set_cons_zero, List.set_cons_succ])
        rotate_left
        refine op_run (v := .slice (some ⟨wd.heap.size, 0, none⟩) 1 1) (w' := wd.alloc (.cells #[.int .i64 (i : Int)] 3)) 10 rfl (by rfl) (by go_simp) ?_
        have D9 : CellsAt (wd.alloc (.cells #[.int .i64 (i : Int)] 3)) wd.heap.size 0 [.int .i64 (i : Int)] := (Blk.new wd 3 #[.int .i64 (i : Int)]).cellsAt
        have hlt9 : wd.heap.size < (wd.alloc (.cells #[.int .i64 (i : Int)] 3)).heap.size := by simp
        have hS9 : Keep [] wr (wd.alloc (.cells #[.int .i64 (i : Int)] 3)) := hS.alloc _
        obtain ⟨gl, hgl⟩ : ∃ gl, wd.heap.size = gl := ⟨_, rfl⟩
        rw [hgl] at D9 hlt9
        generalize wd.alloc (.cells #[.int .i64 (i : Int)] 3) = we at *
        refine ⟨fun _ => hS9, ?_⟩
        rw [hgl]
        clear hgl hS
        (simp only [Act.put, List.setIfInBounds_toArray, List.set_cons_zero, List.set_cons_succ])
        refine ap_one 8 (by kernel_rfl) ?_
        refine op_call (f := 43) 8 rfl (by rfl) rfl (by simp only [List.map_toArray, List.map_cons, List.map_nil]; rfl) Tryd.func43 (by kernel_rfl) (by kernel_rfl) (HE4 _ hS9).out ?_
        rintro e2 w9 ⟨A, cp, rfl, o9, k9⟩
        have hzd := hS9.size
        have O9 := own_base o9 hzd
        replace D9 := D9.keep0 k9 hlt9
        have hS := hS9.then k9
        refine ⟨_, rfl, fun _ => hS, ?_⟩
        clear k9 o9 hS9 hlt9 hzd
        (simp only [Act.put, List.setIfInBounds_toArray, List.set_cons_zero, List.set_cons_succ])
        rotate_left
        all_goals
          have hM8 := HM8.out
          have hLl := HLl.out
          have hzS := hS.size
          refine ap_one 11 (by kernel_rfl) ?_
          refine op_app 11 1 (.tmp 96) (.tmp 98) 40 rfl (by rfl) rfl slice_intW O9 rfl rfl D9 rfl (by simp [Value.oneCell']) hzS (by omega) (by unfold maxLen; omega) ?_
          intro v' w10 hown k10 _
          have hS10 : Keep [] wr w10 := hS.trans k10 (fun y hy hlt => by have := (O9.lt y (by simpa using hy)).1; omega)
          obtain ⟨A', c', rfl⟩ := own_shape hown
          refine ⟨fun _ => hS10, ?_⟩
          (simp only [Act.put, List.setIfInBounds_toArray, List.set_cons_zero, List.set_cons_succ])
          refine ap_one 12 (by kernel_rfl) ?_
          refine op_run (v := .slice A' (L.length + 1) c') (w' := w10) 12 rfl (by rfl) (by go_simp) ?_
          refine ⟨fun _ => hS10, ap_done (by kernel_rfl) ?_ _⟩
          (simp only [Act.put, List.setIfInBounds_toArray, List.set_cons_zero, List.set_cons_succ])
          have hnv : natsV L ++ [.int .i64 (i : Int)] = natsV (L ++ [i]) := by simp [natsV]
          rw [hnv] at hown
          have HO := Lib.hid hown
          have HKX := Lib.hid (HKW.out.then hS10)
          have HB2 := Lib.hid (B2.out.keep0 HKX.out)
          clear hown k10 hS hS10 hPan O9 D9 hnv
          go_wp2_with (refine stop_store 70 (.tmp 8) (.tmp 102) rfl ?_)
          constructor
          refine wpList_store_all rfl 70 (.tmp 8) (.tmp 102) rfl rfl rfl (vs := [.slice A' (L.length + 1) c', .int .i64 hz]) agg_way.2 HB2.out (by simp [Value.oneCell']) ?_ ?_
          · rfl
          intro wz dz kz
          go_wp2
          refine bodyPost_ret (results_cell_tmp rfl _ rfl rfl dz agg_way) rfl ?_
          have hz0 := HZ0.out
          have hll2 : (L ++ [i]).length = L.length + 1 := by simp
          refine .inl ⟨A', c', L ++ [i], by rw [HHZ.out, hll2]; rfl, ?_, ⟨by simp, by rw [hll2]; omega, by rw [HHZ.out]; exact HFI.out.1, HFI.out.2.1, by rw [HHZ.out]; exact HFI.out.2.2⟩, (HK0.out.then HKX.out).trans kz (fun y hy hlt => by simp at hy; omega)⟩
          rw [hll2]
          exact own_base (own_low HO.out kz (fun y hy => by simp at hy; omega)) (by omega)
      · have HX := Lib.hid (And.intro hg hF)
        have HB2 := Lib.hid (B2.out.keep0 HKW.out)
        clear hg hF
        go_wp2_with (refine stop_store 70 (.tmp 8) (.tmp 87) rfl ?_)
        constructor
        refine wpList_store_all rfl 70 (.tmp 8) (.tmp 87) rfl rfl rfl (vs := [.slice none 0 0, .int .i64 0]) agg_way.2 HB2.out (by simp [Value.oneCell']) ?_ ?_
        · rfl
        intro wz dz kz
        go_wp2
        refine bodyPost_ret (results_cell_tmp rfl _ rfl rfl dz agg_way) rfl ?_
        exact .inr ⟨rfl, HX.out, (HK0.out.then HKW.out).trans kz (fun y hy hlt => by simp at hy; omega)⟩
end Go.Proofs.YteocldlglklnjaaDoor
