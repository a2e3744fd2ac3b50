/- The document's search for an edge; walked. No condition. The document's end of a change where another mode is asked for; walked. Condition: what begin does then. The document's calls one behind the other, tied up. Condition: an admitted image. Another mode is asked for, in the document; walked. Condition: an admitted image. Which tasks are open and active, in the document; a new engine; walked. Condition: an admitted image; both engines tell the same. -/
import Derived.Test.YteflgdnekflbbaaGreatDoorDcD
import Derived.Test.YteflgdnekflbbaaGreatDoorCertF
namespace Go.Proofs.YteflgdnekflbbaaGreatDoor
open Go.RowKit
attribute [local go_sem] Oper.semAt_some

set_option maxRecDepth 100000 in
set_option maxHeartbeats 2000000 in
theorem dfind_any (v : ImgV) (x : Img) (f t : Int) (w : World) (h : ImgAt w v x) :
    Calls Tryz.prog 23 #[.agg (imgCells v x).toArray, .int .i64 f, .int .i64 t] w fun e w' => e = .returned (.int .i64 (optI (edgeAt x.edges f t))) ∧ Keep [] w w' := by
  have hl := h.le
  unfold maxLen at hl
  have hb := img_box w v x
  have K0 := (Keep.refl [] w).alloc (.cells (imgCells v x).toArray 26)
  have hF : ∀ w', Keep [] (w.alloc (.cells (imgCells v x).toArray 26)) w' → w'.cell? ⟨w.heap.size, 3, none⟩ = some (.slice v.ea x.edges.length v.ec) := fun w' k => img_c3 (hb.keep0 k)
  clear hb
  have he := h.edge
  generalize (imgCells v x).toArray = cs at *
  generalize x.edges = es at *
  clear h
  obtain ⟨W0, hW0⟩ : ∃ W0, w.alloc (.cells cs 26) = W0 := ⟨_, rfl⟩
  rw [hW0] at hF K0
  have HW := Lib.hid hW0
  have HF := Lib.hid hF
  have HK0 := Lib.hid K0
  clear hW0 hF K0
  go_enter Tryz.func23, Tryz.ntmps23
  go_wp2_with (rw [HW.out])
  go_loopw [7] (fun i wr => ∃ k : Nat, k ≤ es.length ∧ i = .int .i64 k ∧ firstBad (edgeIs f t) 0 (es.take k) = none ∧ Keep [] W0 wr) (fun i _ => es.length - (intOf i).toNat)
  case atStart => exact ⟨0, Nat.zero_le _, rfl, rfl, Keep.refl _ _⟩
  case round =>
    obtain ⟨k, hk, rfl, hfb, hkeep⟩ := hrel
    have c3 := HF.out wr hkeep
    by_cases hlt : k < es.length
    · obtain ⟨b, o, hA, hbl, hcs⟩ := he (by omega)
      have hce := (hcs k hlt).keep0 (HK0.out.then hkeep) hbl
      have e0 := hce 0 (.int .i64 es[k].frm) rfl
      have e1 := hce 1 (.int .i64 es[k].to) rfl
      rw [Nat.add_zero] at e0
      have HC3 := Lib.hid c3
      clear c3
      have c3 := HC3.out
      rw [hA] at c3
      have hok := Lib.hid (firstBad_step (edgeIs f t) hlt hfb)
      have hat := Lib.hid (firstBad_at (edgeIs f t) hlt hfb)
      have hid : Hid (edgeIs f t k es[k] = !(es[k].frm == f && es[k].to == t)) := rfl
      have p0 : (0 : Int) ≤ (k : Int) := by omega
      have p1 : (k : Int) < (es.length : Int) := by omega
      clear hfb hcs hce
      generalize es[k] = e at *
      have hcase : ((e.frm == f) = false ∧ edgeIs f t k e = true) ∨ ((e.frm == f) = true ∧ (e.to == t) = false ∧ edgeIs f t k e = true) ∨ ((e.frm == f) = true ∧ (e.to == t) = true ∧ edgeIs f t k e = false) := by
        rw [hid.out]
        cases (e.frm == f) <;> cases (e.to == t) <;> simp
      rcases hcase with ⟨h1, hi⟩ | ⟨h1, h2, hi⟩ | ⟨h1, h2, hi⟩
      all_goals
        have HI := Lib.hid hi
        clear hi
        go_wp2
      · go_roundw
        case rel => exact ⟨k + 1, by omega, by go_num, hok.out HI.out, hkeep⟩
        case measure => simp [intOf] <;> omega
      · go_roundw
        case rel => exact ⟨k + 1, by omega, by go_num, hok.out HI.out, hkeep⟩
        case measure => simp [intOf] <;> omega
      · have HR := Lib.hid (hat.out HI.out)
        go_ret
        exact ⟨by unfold edgeAt; rw [HR.out]; rfl, HK0.out.then hkeep⟩
    · have hall := Lib.hid (firstBad_all (edgeIs f t) (by omega) hfb)
      clear hfb
      go_wp2
      go_ret
      exact ⟨by unfold edgeAt; rw [hall.out]; rfl, HK0.out.then hkeep⟩
end Go.Proofs.YteflgdnekflbbaaGreatDoor

namespace Go.Proofs.YteflgdnekflbbaaGreatDoor
open Go.RowKit
attribute [local go_sem] Oper.semAt_some

section
variable {W0 w : World} {V : DcV} {X : ChX} {d : DcS} {A : Option Addr} {n p : Nat} {xs : List Value}
set_option maxRecDepth 100000 in
set_option maxHeartbeats 2000000 in
theorem dover1_any (hX : DcX W0 V X) (K : Keep [] W0 w) (hr : w.ownsRow W0.heap.size 86 4 (.slice A n p) n xs) (N : Nat) (hN : N ≤ 997) (hn : n ≤ N) {k hd : Nat} (he : d.edge = some k) (hh : d.held = some hd) (live : Bool)
    (hbg : ∀ i w1 A1 n1 p1 xs1, edgeAt X.x.edges (d.mode : Int) (hd : Int) = some i → Keep [] W0 w1 → w1.ownsRow W0.heap.size 86 4 (.slice A1 n1 p1) n1 xs1 → n1 ≤ N + 1 → Calls Tryz.prog 24 #[.agg (dcL V X { d with ph := 0, edge := none, held := none }).toArray, .int .i64 (i : Int), .bool live, .slice A1 n1 p1] w1 (RetD W0 w1 (Value.slice A1 n1 p1).ownBlock.toList V X n1 xs1 (beginD X { d with ph := 0, edge := none, held := none } i live))) :
    Calls Tryz.prog 35 #[.agg (dcL V X d).toArray, .bool live, .slice A n p] w (RetD W0 w (Value.slice A n p).ownBlock.toList V X n xs (overD1 X live d)) := by
  obtain ⟨W1, hW1⟩ : ∃ W1, (w.alloc (.cells (dcL V X d).toArray 31)).alloc (.cells #[.int .i64 0, .slice none 0 0, .slice none 0 0, .slice none 0 0, .slice none 0 0, .slice none 0 0, .int .i64 0, .int .i64 0, .int .i64 0, .int .i64 0, .int .i64 0, .int .i64 0, .int .i64 0] 31) = W1 := ⟨_, rfl⟩
  have I1 : DcI W0 w (Value.slice A n p).ownBlock.toList W1 V X d w.heap.size (w.heap.size + 1) A n p xs := by rw [← hW1]; exact DcI.start K hr
  obtain ⟨_, ⟨c6, c7, _, _⟩, _, _, _⟩ := dc_cells I1.e
  rw [he] at c7
  replace c7 : W1.cell? ⟨w.heap.size, 7, none⟩ = some (.int .i64 (k : Int)) := c7
  have HW := Lib.hid hW1
  have HI := Lib.hid I1
  have hbd := fun W => build_dn 3 (k : Int) (d.mode : Int) 0 W
  have HV : Hid (dnCells ⟨3, k, d.mode, 0⟩ = [.int .i64 3, .int .i64 (k : Int), .int .i64 (d.mode : Int), .int .i64 0]) := show _ = _ from rfl
  have HO : Hid (overD1 X live d = (match edgeAt X.x.edges (d.mode : Int) (hd : Int) with
    | none => ({ d with ph := 0, edge := none, held := none }, [⟨3, k, d.mode, 0⟩])
    | some i => ((beginD X { d with ph := 0, edge := none, held := none } i live).1, ⟨3, k, d.mode, 0⟩ :: (beginD X { d with ph := 0, edge := none, held := none } i live).2))) := by
    clear hW1 I1 c6 c7 HW HI hbd HV hbg
    obtain ⟨dm, de, dp, dn, ds, du, dh⟩ := d
    dsimp only at hh he
    subst hh he
    show _ = _
    unfold overD1 overD0
    dsimp only
    cases edgeAt X.x.edges (dm : Int) (hd : Int) <;> rfl
  have HH := Lib.hid hh
  have HBG := Lib.hid hbg
  clear hW1 I1 hr hh he hbg
  go_enter Tryz.func35, Tryz.ntmps35
  go_wp2_with (first | rw [HW.out] | (refine stop_at 15 rfl ?_))
  constructor
  refine wpList_runsC rfl (exec_slice_oneC slice_N30 (cs := dnCells ⟨3, k, d.mode, 0⟩) rfl (by decide) (congrArg (fun l => Value.agg (List.toArray l)) HV.out.symm) _) ?_
  have I4 := HI.out.keep0 ((Keep.refl [] W1).alloc (.cells (dnCells ⟨3, k, d.mode, 0⟩).toArray 86))
  have B4 := Blk.new W1 86 (dnCells ⟨3, k, d.mode, 0⟩).toArray
  have hsz : W0.heap.size ≤ (W1.alloc (.cells (dnCells ⟨3, k, d.mode, 0⟩).toArray 86)).heap.size := I4.k.size
  generalize W1.alloc (.cells (dnCells ⟨3, k, d.mode, 0⟩).toArray 86) = w4 at *
  refine wpList_append_reads rfl (.tmp 9) (.tmp 15) 39 rfl slice_N30 I4.r rfl (Reads.of_own (own_dn1 (B := 0) _ B4 (Nat.zero_le _))) rfl (dn_one _) hsz (by omega) (by unfold maxLen; omega) ?_
  intro v' w5 o5 k5 hb5
  obtain ⟨A5, p5, rfl⟩ := own_shape o5
  have I5 := I4.app o5 k5 (app_rb hb5)
  have I7 := (I5.put 8 (.int .i64 0) (d' := { d with ph := 0 }) rfl).put 7 (.int .i64 (-1)) (d' := { d with ph := 0, edge := none }) rfl
  obtain ⟨_, ⟨_, d7, d8, _⟩, _, _, _⟩ := dc_cells I5.e
  have e7 := I5.e.frozen 7
  have e8 := I5.e.frozen 8
  have I8 := I7
  clear I4 B4 hsz o5 k5 hb5 I5 HI c6 c7 hbd I7
  have HI7 := Lib.hid I8
  clear I8
  go_upto_region 4 with fail
  clear d7 d8 e7 e8
  generalize (w5.setCell ⟨w.heap.size, 8, none⟩ (.int .i64 0)).setCell ⟨w.heap.size, 7, none⟩ (.int .i64 (-1)) = w7 at *
  obtain ⟨_, ⟨c6, _, _, _⟩, _, _, c12⟩ := dc_cells HI7.out.e
  dsimp only at c6 c12
  rw [HH.out] at c12
  replace c12 : w7.cell? ⟨w.heap.size, 12, none⟩ = some (.int .i64 (hd : Int)) := c12
  have p0 : ¬ (hd : Int) < 0 := by omega
  have hF : ∀ w', Keep [] w7 w' → w'.cell? ⟨w.heap.size, 6, none⟩ = some (.int .i64 (d.mode : Int)) ∧ w'.cell? ⟨w.heap.size, 12, none⟩ = some (.int .i64 (hd : Int)) := fun w' kk => by
    obtain ⟨_, ⟨c6, _, _, _⟩, _, _, c12⟩ := dc_cells (HI7.out.keep0 kk).e
    dsimp only at c6 c12
    rw [HH.out] at c12
    exact ⟨c6, c12⟩
  have HCI := Lib.hid (dc_img HI7.out.e)
  have HFI := Lib.hid (dfind_any V.v X.x (d.mode : Int) (hd : Int) w7 (hX.img w7 HI7.out.k))
  have HIL : Hid ((imgCells V.v X.x).length = 4) := show _ = _ from rfl
  obtain ⟨rr, hrr⟩ : ∃ rr, edgeAt X.x.edges (d.mode : Int) (hd : Int) = rr := ⟨_, rfl⟩
  rw [hrr] at HFI HO
  simp only [hrr] at HBG
  clear hrr
  generalize imgCells V.v X.x = il at *
  cases rr with
  | none =>
    go_upto_region 7 with (first
      | (refine wpList_load_agg rfl 26 (.tmp 24) rfl rfl (cs := il) (by rw [HIL.out]; exact agg_image) HCI.out ?_)
      | (go_at_call 23; refine HFI.out.mono ?_; rintro _ w8 ⟨rfl, k8⟩))
    have I8 := HI7.out.keep0 k8
    have d12 := (dc_cells I8.e).2.2.2.2
    have f12 := I8.e.frozen 12
    have I9 := I8.put 12 (.int .i64 (-1)) (d' := { d with ph := 0, edge := none, held := none }) rfl
    have HI9 := Lib.hid I9
    have HCA := Lib.hid I9.e.cellsAt
    clear hF I8 I9 c6 c12 k8
    rw [show optI none = -1 from rfl]
    go_upto_region 9 with fail
    clear d12 f12
    generalize w8.setCell ⟨w.heap.size, 12, none⟩ (.int .i64 (-1)) = w9 at *
    obtain ⟨cs, ho, hs⟩ := HI9.out.o
    go_wp2_with (first
      | (refine wpList_load_agg rfl 31 (.tmp 3) rfl rfl (cs := dcL V X { d with ph := 0, edge := none, held := none }) agg_E30 HCA.out ?_)
      | (refine stop_store 31 (.tmp 6) (.tmp 34) rfl ?_))
    constructor
    refine wpList_store_all rfl 31 (.tmp 6) (.tmp 34) rfl rfl rfl (vs := dcL V X { d with ph := 0, edge := none, held := none }) agg_E30.2 ho (dcL_one _ _ _) hs.symm ?_
    intro w10 d10 k10
    obtain ⟨oo, KK, LL, rr⟩ := HI9.out.done k10
    go_wp2
    refine bodyPost_ret (results_blk_tmpD rfl _ rfl rfl d10 agg_E30) rfl ?_
    rw [HO.out]
    exact ⟨A5, p5, rfl, oo, KK, LL, rr⟩
  | some i =>
    go_upto_region 7 with (first
      | (refine wpList_load_agg rfl 26 (.tmp 24) rfl rfl (cs := il) (by rw [HIL.out]; exact agg_image) HCI.out ?_)
      | (go_at_call 23; refine HFI.out.mono ?_; rintro _ w8 ⟨rfl, k8⟩))
    have I8 := HI7.out.keep0 k8
    have d12 := (dc_cells I8.e).2.2.2.2
    have f12 := I8.e.frozen 12
    have I9 := I8.put 12 (.int .i64 (-1)) (d' := { d with ph := 0, edge := none, held := none }) rfl
    have HI9 := Lib.hid I9
    have HCA := Lib.hid I9.e.cellsAt
    have HBG1 := fun w1 A1 n1 p1 xs1 => HBG.out i w1 A1 n1 p1 xs1 rfl
    have HBG2 := Lib.hid HBG1
    clear hF I8 I9 c6 c12 k8 HBG HBG1
    rw [show optI (some i) = (i : Int) from rfl]
    have q0 : ¬ (i : Int) < 0 := by omega
    go_upto_region 10 with fail
    clear d12 f12
    generalize w8.setCell ⟨w.heap.size, 12, none⟩ (.int .i64 (-1)) = w9 at *
    have hcl := HBG2.out w9 A5 (n + 1) p5 _ HI9.out.k HI9.out.r (by omega)
    obtain ⟨rn, hrn⟩ : ∃ rn, beginD X { d with ph := 0, edge := none, held := none } i live = rn := ⟨_, rfl⟩
    have HO2 : Hid (overD1 X live d = ((beginD X { d with ph := 0, edge := none, held := none } i live).1, ⟨3, k, d.mode, 0⟩ :: (beginD X { d with ph := 0, edge := none, held := none } i live).2)) := HO.out
    rw [hrn] at hcl HO2
    have HCL := Lib.hid hcl
    clear hrn hcl HBG2 HO
    go_wp2_with (first
      | (refine wpList_load_agg rfl 31 (.tmp 3) rfl rfl (cs := dcL V X { d with ph := 0, edge := none, held := none }) agg_E30 HCA.out ?_)
      | (go_at_call 24; refine HCL.out.mono ?_; rintro _ w11 ⟨A9, p9, rfl, o9, K9, L9, rb9⟩)
      | (refine stop_store 31 (.tmp 6) (.tmp 41) rfl ?_))
    constructor
    have I11 := HI9.out.app o9 L9 rb9
    obtain ⟨cs9, ho9, hs9⟩ := I11.o
    refine wpList_store_all rfl 31 (.tmp 6) (.tmp 41) rfl rfl rfl (vs := dcL V X rn.1) agg_E30.2 ho9 (dcL_one _ _ _) hs9.symm ?_
    intro w12 d12 k12
    obtain ⟨oo, KK, LL, rr⟩ := I11.done k12
    go_wp2
    refine bodyPost_ret (results_blk_tmpD rfl _ rfl rfl d12 agg_E30) rfl ?_
    rw [HO2.out]
    have hl : n + 1 + rn.2.length = n + (⟨3, k, d.mode, 0⟩ :: rn.2 : List Nw).length := by rw [List.length_cons]; omega
    rw [hl] at oo rr ⊢
    refine ⟨A9, p9, rfl, ?_, KK, LL, rr⟩
    rw [show dnV (⟨3, k, d.mode, 0⟩ :: rn.2) = dnCells ⟨3, k, d.mode, 0⟩ ++ dnV rn.2 from rfl, ← List.append_assoc]
    exact oo
end
end Go.Proofs.YteflgdnekflbbaaGreatDoor

namespace Go.Proofs.YteflgdnekflbbaaGreatDoor
open Go.RowKit
attribute [local go_sem] Oper.semAt_some

theorem ChG.to {X : ChX} (g : ChG X) {k : Nat} (hk : k < X.x.edges.length) : (edg X.x k).to = (eTo X.x k : Int) := by
  have := (g.ft k hk).2.1
  unfold eTo
  omega
theorem ChG.prot {X : ChX} (g : ChG X) {k : Nat} (hk : k < X.x.edges.length) : (edg X.x k).prot = (ePr X.x k : Int) := by
  have := (g.pr k hk).1
  unfold ePr at *
  omega
section
variable {W0 w : World} {V : DcV} {X : ChX} {d : DcS} {A : Option Addr} {n p : Nat} {xs : List Value} (g : ChG X) (hX : DcX W0 V X) (K : Keep [] W0 w) (hr : w.ownsRow W0.heap.size 86 4 (.slice A n p) n xs)
include g hX K hr
set_option maxRecDepth 100000 in
theorem dcome0_any (N : Nat) (hN : N ≤ 999) (hn : n ≤ N) {k : Nat} (he : d.edge = some k) (hk : k < X.x.edges.length) (hh : d.held = none) (hpast : d.since ≤ d.now) (hnow : d.now < 4611686018427387904) (live : Bool) :
    Calls Tryz.prog 36 #[.agg (dcL V X d).toArray, .bool live, .slice A n p] w (RetD W0 w (Value.slice A n p).ownBlock.toList V X n xs (comeD0 X d)) :=
  dcome_any hX K hr N hN hn he hk (g.to hk) (g.st k) hpast hnow live overD0 (fun w1 A1 n1 p1 xs1 K1 r1 hn1 => dover0_any (d := { d with mode := eTo X.x k, ph := 4, due := d.now + X.st k }) K1 r1 (by omega) he hh live)
set_option maxRecDepth 100000 in
theorem dbegin0_any (N : Nat) (hN : N ≤ 998) (hn : n ≤ N) {k : Nat} (hk : k < X.x.edges.length) (hh : d.held = none) (hnow : d.now < 4611686018427387904) (live : Bool) :
    Calls Tryz.prog 24 #[.agg (dcL V X d).toArray, .int .i64 (k : Int), .bool live, .slice A n p] w (RetD W0 w (Value.slice A n p).ownBlock.toList V X n xs (beginD X d k live)) :=
  dbegin_any hX K hr N hN hn hk (g.to hk) (g.prot hk) (g.la k) hnow live (comeD0 X) (fun w1 A1 n1 p1 xs1 K1 r1 hn1 => dcome0_any (d := { d with edge := some k, since := d.now, ph := ePr X.x k, due := d.now + X.la k }) g hX K1 r1 (N + 1) (by omega) hn1 rfl hk hh (Nat.le_refl _) hnow live) rfl
set_option maxRecDepth 100000 in
theorem dover_any (N : Nat) (hN : N ≤ 997) (hn : n ≤ N) {k : Nat} (he : d.edge = some k) (hnow : d.now < 4611686018427387904) (live : Bool) :
    Calls Tryz.prog 35 #[.agg (dcL V X d).toArray, .bool live, .slice A n p] w (RetD W0 w (Value.slice A n p).ownBlock.toList V X n xs (overD1 X live d)) := by
  cases hh : d.held with
  | none =>
    have e : overD1 X live d = overD0 d := by unfold overD1; rw [hh]
    rw [e]
    exact dover0_any K hr (by omega) he hh live
  | some hd =>
    refine dover1_any hX K hr N hN hn he hh live (fun i w1 A1 n1 p1 xs1 hi K1 r1 hn1 => ?_)
    obtain ⟨hk, _, _⟩ := edgeAt_is hi
    exact dbegin0_any (d := { d with ph := 0, edge := none, held := none }) g hX K1 r1 (N + 1) (by omega) hn1 hk rfl hnow live
set_option maxRecDepth 100000 in
theorem dcome1_any (N : Nat) (hN : N ≤ 996) (hn : n ≤ N) {k : Nat} (he : d.edge = some k) (hk : k < X.x.edges.length) (hpast : d.since ≤ d.now) (hnow : d.now < 4611686018427387904) (live : Bool) :
    Calls Tryz.prog 36 #[.agg (dcL V X d).toArray, .bool live, .slice A n p] w (RetD W0 w (Value.slice A n p).ownBlock.toList V X n xs (comeD1 X live d)) :=
  dcome_any hX K hr N (by omega) hn he hk (g.to hk) (g.st k) hpast hnow live (overD1 X live) (fun w1 A1 n1 p1 xs1 K1 r1 hn1 => dover_any (d := { d with mode := eTo X.x k, ph := 4, due := d.now + X.st k }) g hX K1 r1 (N + 1) (by omega) hn1 he hnow live)
end
theorem DcI.whole {W0 w W W' : World} {F : List Nat} {V : DcV} {X : ChX} {d d' : DcS} {g g2 : Nat} {A : Option Addr} {n p : Nat} {xs : List Value} (h : DcI W0 w F W V X d g g2 A n p xs) (b : Blk W' g 31 (dcL V X d').toArray) (k : Keep [g] W W') : DcI W0 w F W' V X d' g g2 A n p xs := by
  obtain ⟨cs, ho, hs⟩ := h.o
  have h2 := h.le
  have h3 := h.w0
  exact ⟨b, ⟨cs, ho.keep k (by simp; exact fun e => h.ne e.symm), hs⟩, own_keep h.r k (fun y hy hm => by simp at hm; subst hm; exact unown_ne h.r h.e (by decide) hy), h.ne, h.le, h.w0, h.k.trans k (fun y hy hlt => by simp at hy; omega), h.kf.trans k (fun y hy hlt => by simp at hy; omega), h.rb⟩
/-- What is behind a tick: the engine, and what happened. -/
def RetT (w : World) (V : DcV) (X : ChX) (r : DcS × List Nw) (e : Ending) (w' : World) : Prop :=
  ∃ A p, e = .returned (.tuple #[.agg (dcL V X r.1).toArray, .slice A r.2.length p]) ∧ w'.ownsRow w.heap.size 86 4 (.slice A r.2.length p) r.2.length (dnV r.2) ∧ Keep [] w w'
theorem tick_ph {X : ChX} {s : EnS} {d : DcS} (h : RelE X s d) (hp : d.ph ≠ 0) : ∃ k, k < X.x.edges.length ∧ d.edge = some k := by
  rcases h.ph_edge with ⟨_, h0, _⟩ | ⟨k, hk, he, _⟩
  · exact absurd h0 hp
  · exact ⟨k, hk, he⟩
section
variable {w : World} {V : DcV} {X : ChX} {d : DcS}
set_option maxRecDepth 100000 in
set_option maxHeartbeats 2000000 in
theorem dtick30_any (g : ChG X) (hX : DcX w V X) {s : EnS} (hR : RelE X s d) (hnow : d.now < 4000000000000000000) (live : Bool) :
    Calls Tryz.prog 12 #[.agg (dcL V X d).toArray, .bool live] w (RetT w V X (tickD X d live)) := by
  obtain ⟨W1, hW1⟩ : ∃ W1, (w.alloc (.cells (dcL V X d).toArray 31)).alloc (.cells #[.int .i64 0, .slice none 0 0, .slice none 0 0, .slice none 0 0, .slice none 0 0, .slice none 0 0, .int .i64 0, .int .i64 0, .int .i64 0, .int .i64 0, .int .i64 0, .int .i64 0, .int .i64 0] 31) = W1 := ⟨_, rfl⟩
  have I1 : DcI w w [] W1 V X d w.heap.size (w.heap.size + 1) none 0 0 [] := by
    rw [← hW1]; exact DcI.start (Keep.refl _ _) (World.ownsRow_nil _ _ _ _)
  have c9 := (dc_cells I1.e).2.1.2.2.2
  have f9 := I1.e.frozen 9
  obtain ⟨n1, hn1⟩ : ∃ n1, d.now + 1 = n1 := ⟨_, rfl⟩
  have hw : IntKind.i64.wrap ((d.now : Int) + 1) = (n1 : Int) := by rw [IntWalk.i64_in _ (by omega)]; omega
  have I2 := I1.put 9 (.int .i64 (n1 : Int)) (d' := { d with now := n1 }) rfl
  have HW := Lib.hid hW1
  have HI2 := Lib.hid I2
  have hpast : d.since ≤ n1 := by have := hR.past; rw [hR.since, hR.now] at this; omega
  have hnow1 : n1 < 4611686018427387904 := by omega
  have HE := Lib.hid (fun (hp : d.ph ≠ 0) => tick_ph hR hp)
  have HT : Hid (tickD X d live = (if d.ph = 4 ∧ n1 = d.due then overD1 X live { d with now := n1 } else if (d.ph = 1 ∧ live = false) ∨ ((d.ph = 2 ∨ d.ph = 3) ∧ n1 = d.due) then comeD1 X live { d with now := n1 } else ({ d with now := n1 }, []))) := by
    show _ = _
    rw [← hn1]
    rfl
  have K1 := I2.k
  have HOV := Lib.hid (fun k (he : d.edge = some k) w2 (K2 : Keep [] w w2) => dover_any g hX (d := { d with now := n1 }) K2 (World.ownsRow_nil w2 w.heap.size 86 4) 10 (by omega) (Nat.zero_le _) he hnow1 live)
  have HCM := Lib.hid (fun k (he : d.edge = some k) (hk : k < X.x.edges.length) w2 (K2 : Keep [] w w2) => dcome1_any g hX (d := { d with now := n1 }) K2 (World.ownsRow_nil w2 w.heap.size 86 4) 10 (by omega) (Nat.zero_le _) he hk hpast hnow1 live)
  clear hW1 I1 I2 hn1 K1 hX hR
  go_enter Tryz.func12, Tryz.ntmps12
  go_upto_region 3 with (rw [HW.out])
  clear c9 f9 hw
  generalize W1.setCell ⟨w.heap.size, 9, none⟩ (.int .i64 (n1 : Int)) = w2 at *
  obtain ⟨_, ⟨_, _, c8, c9⟩, _, c11, _⟩ := dc_cells HI2.out.e
  dsimp only at c8 c9 c11
  by_cases hph : d.ph = 4
  · skip
    replace c8 : w2.cell? ⟨w.heap.size, 8, none⟩ = some (.int .i64 4) := by rw [c8, hph]; rfl
    by_cases hdu : n1 = d.due
    · skip
      have q4 : ((n1 : Int) == (d.due : Int)) = true := by simp; omega
      have q5 : ((n1 : Int) = (d.due : Int)) = True := eq_true (by omega)
      have q6 : (n1 = d.due) = True := eq_true hdu
      have HDU := Lib.hid hdu
      obtain ⟨k, hk, hek⟩ := HE.out (by omega)
      have hcl := HOV.out k hek w2 HI2.out.k
      obtain ⟨rn, hrn⟩ : ∃ rn, overD1 X live { d with now := n1 } = rn := ⟨_, rfl⟩
      have HC : Hid (tickD X d live = overD1 X live { d with now := n1 }) := by show _ = _; rw [HT.out, if_pos ⟨hph, hdu⟩]
      rw [hrn] at hcl HC
      have HCL := Lib.hid hcl
      clear hdu hph
      have HCA := Lib.hid HI2.out.e.cellsAt
      clear hrn hcl HOV HCM HT HE hek
      go_upto_region 4 with fail
      clear c8 c9 c11
      go_wp2_with (first
        | (refine wpList_load_agg rfl 31 (.tmp 2) rfl rfl (cs := dcL V X { d with now := n1 }) agg_E30 HCA.out ?_)
        | (go_at_call 35; refine HCL.out.mono ?_; rintro _ w4 ⟨A9, p9, rfl, o9, K9, L9, rb9⟩)
        | (refine stop_store 31 (.tmp 2) (.tmp 26) rfl ?_))
      constructor
      have I4 := HI2.out.app o9 L9 rb9
      obtain ⟨e4, o4⟩ := And.intro I4.e I4.o
      refine wpList_store_all rfl 31 (.tmp 2) (.tmp 26) rfl rfl rfl (vs := dcL V X rn.1) agg_E30.2 e4 (dcL_one _ _ _) rfl ?_
      intro w5 d5 k5
      have I5 := I4.whole d5 k5
      have HI5 := Lib.hid I5
      have HCA5 := Lib.hid I5.e.cellsAt
      clear I4 I5 e4 o4 o9 K9 L9 rb9 d5 k5 HCL
      obtain ⟨cs5, ho5, hs5⟩ := HI5.out.o
      go_upto_region 5 with fail
      go_wp2_with (first
        | (refine wpList_load_agg rfl 31 (.tmp 2) rfl rfl (cs := dcL V X rn.1) agg_E30 HCA5.out ?_)
        | (refine stop_store 31 (.tmp 4) (.tmp 28) rfl ?_))
      constructor
      refine wpList_store_all rfl 31 (.tmp 4) (.tmp 28) rfl rfl rfl (vs := dcL V X rn.1) agg_E30.2 ho5 (dcL_one _ _ _) hs5.symm ?_
      intro w6 d6 k6
      obtain ⟨oo, KK, _, _⟩ := HI5.out.done k6
      go_wp2
      refine bodyPost_ret (results_blk_tmpD rfl _ rfl rfl d6 agg_E30) rfl ?_
      rw [HC.out]
      rw [Nat.zero_add] at oo
      rw [List.nil_append] at oo
      exact ⟨A9, p9, rfl, oo, KK⟩
    · skip
      have q4 : ((n1 : Int) == (d.due : Int)) = false := by simp; omega
      have q5 : ((n1 : Int) = (d.due : Int)) = False := eq_false (by omega)
      have q6 : (n1 = d.due) = False := eq_false hdu
      have HDU := Lib.hid hdu
      have HC : Hid (tickD X d live = ({ d with now := n1 }, [])) := by show _ = _; rw [HT.out, if_neg (by rintro ⟨_, h⟩; exact hdu h), if_neg (by rintro (⟨h, _⟩ | ⟨h | h, _⟩) <;> omega)]
      have HCA := Lib.hid HI2.out.e.cellsAt
      clear hdu hph
      clear HOV HCM HT HE
      obtain ⟨cs5, ho5, hs5⟩ := HI2.out.o
      go_upto_region 8 with fail
      clear c8 c9 c11
      go_wp2_with (first
        | (refine wpList_load_agg rfl 31 (.tmp 2) rfl rfl (cs := dcL V X { d with now := n1 }) agg_E30 HCA.out ?_)
        | (refine stop_store 31 (.tmp 4) (.tmp 61) rfl ?_))
      constructor
      refine wpList_store_all rfl 31 (.tmp 4) (.tmp 61) rfl rfl rfl (vs := dcL V X { d with now := n1 }) agg_E30.2 ho5 (dcL_one _ _ _) hs5.symm ?_
      intro w6 d6 k6
      obtain ⟨oo, KK, _, _⟩ := HI2.out.done k6
      go_wp2
      refine bodyPost_ret (results_blk_tmpD rfl _ rfl rfl d6 agg_E30) rfl ?_
      rw [HC.out]
      exact ⟨none, 0, rfl, World.ownsRow_nil _ _ _ _, KK⟩
  have h4 := hph
  clear hph
  by_cases hph : d.ph = 1
  · skip
    replace c8 : w2.cell? ⟨w.heap.size, 8, none⟩ = some (.int .i64 1) := by rw [c8, hph]; rfl
    cases live
    · skip
      obtain ⟨k, hk, hek⟩ := HE.out (by omega)
      have hcl := HCM.out k hek hk w2 HI2.out.k
      obtain ⟨rn, hrn⟩ : ∃ rn, comeD1 X false { d with now := n1 } = rn := ⟨_, rfl⟩
      have HC : Hid (tickD X d false = comeD1 X false { d with now := n1 }) := by show _ = _; rw [HT.out, if_neg (by rintro ⟨h, _⟩; exact h4 h), if_pos (.inl ⟨hph, rfl⟩)]
      rw [hrn] at hcl HC
      have HCL := Lib.hid hcl
      clear hph h4
      have HCA := Lib.hid HI2.out.e.cellsAt
      clear hrn hcl HOV HCM HT HE hek
      go_upto_region 7 with fail
      clear c8 c9 c11
      go_wp2_with (first
        | (refine wpList_load_agg rfl 31 (.tmp 2) rfl rfl (cs := dcL V X { d with now := n1 }) agg_E30 HCA.out ?_)
        | (go_at_call 36; refine HCL.out.mono ?_; rintro _ w4 ⟨A9, p9, rfl, o9, K9, L9, rb9⟩)
        | (refine stop_store 31 (.tmp 2) (.tmp 59) rfl ?_))
      constructor
      have I4 := HI2.out.app o9 L9 rb9
      obtain ⟨e4, o4⟩ := And.intro I4.e I4.o
      refine wpList_store_all rfl 31 (.tmp 2) (.tmp 59) rfl rfl rfl (vs := dcL V X rn.1) agg_E30.2 e4 (dcL_one _ _ _) rfl ?_
      intro w5 d5 k5
      have I5 := I4.whole d5 k5
      have HI5 := Lib.hid I5
      have HCA5 := Lib.hid I5.e.cellsAt
      clear I4 I5 e4 o4 o9 K9 L9 rb9 d5 k5 HCL
      obtain ⟨cs5, ho5, hs5⟩ := HI5.out.o
      go_upto_region 8 with fail
      go_wp2_with (first
        | (refine wpList_load_agg rfl 31 (.tmp 2) rfl rfl (cs := dcL V X rn.1) agg_E30 HCA5.out ?_)
        | (refine stop_store 31 (.tmp 4) (.tmp 61) rfl ?_))
      constructor
      refine wpList_store_all rfl 31 (.tmp 4) (.tmp 61) rfl rfl rfl (vs := dcL V X rn.1) agg_E30.2 ho5 (dcL_one _ _ _) hs5.symm ?_
      intro w6 d6 k6
      obtain ⟨oo, KK, _, _⟩ := HI5.out.done k6
      go_wp2
      refine bodyPost_ret (results_blk_tmpD rfl _ rfl rfl d6 agg_E30) rfl ?_
      rw [HC.out]
      rw [Nat.zero_add] at oo
      rw [List.nil_append] at oo
      exact ⟨A9, p9, rfl, oo, KK⟩
    · skip
      have HC : Hid (tickD X d true = ({ d with now := n1 }, [])) := by show _ = _; rw [HT.out, if_neg (by rintro ⟨h, _⟩; exact h4 h), if_neg (by rintro (⟨_, h⟩ | ⟨h | h, _⟩); cases h; omega; omega)]
      have HCA := Lib.hid HI2.out.e.cellsAt
      clear hph h4
      clear HOV HCM HT HE
      obtain ⟨cs5, ho5, hs5⟩ := HI2.out.o
      go_upto_region 8 with fail
      clear c8 c9 c11
      go_wp2_with (first
        | (refine wpList_load_agg rfl 31 (.tmp 2) rfl rfl (cs := dcL V X { d with now := n1 }) agg_E30 HCA.out ?_)
        | (refine stop_store 31 (.tmp 4) (.tmp 61) rfl ?_))
      constructor
      refine wpList_store_all rfl 31 (.tmp 4) (.tmp 61) rfl rfl rfl (vs := dcL V X { d with now := n1 }) agg_E30.2 ho5 (dcL_one _ _ _) hs5.symm ?_
      intro w6 d6 k6
      obtain ⟨oo, KK, _, _⟩ := HI2.out.done k6
      go_wp2
      refine bodyPost_ret (results_blk_tmpD rfl _ rfl rfl d6 agg_E30) rfl ?_
      rw [HC.out]
      exact ⟨none, 0, rfl, World.ownsRow_nil _ _ _ _, KK⟩
  have h1 := hph
  clear hph
  by_cases hph : d.ph = 2
  · skip
    replace c8 : w2.cell? ⟨w.heap.size, 8, none⟩ = some (.int .i64 2) := by rw [c8, hph]; rfl
    by_cases hdu : n1 = d.due
    · skip
      have q4 : ((n1 : Int) == (d.due : Int)) = true := by simp; omega
      have q5 : ((n1 : Int) = (d.due : Int)) = True := eq_true (by omega)
      have q6 : (n1 = d.due) = True := eq_true hdu
      have HDU := Lib.hid hdu
      obtain ⟨k, hk, hek⟩ := HE.out (by omega)
      have hcl := HCM.out k hek hk w2 HI2.out.k
      obtain ⟨rn, hrn⟩ : ∃ rn, comeD1 X live { d with now := n1 } = rn := ⟨_, rfl⟩
      have HC : Hid (tickD X d live = comeD1 X live { d with now := n1 }) := by show _ = _; rw [HT.out, if_neg (by rintro ⟨h, _⟩; exact h4 h), if_pos (.inr ⟨.inl hph, hdu⟩)]
      rw [hrn] at hcl HC
      have HCL := Lib.hid hcl
      clear hdu hph h4 h1
      have HCA := Lib.hid HI2.out.e.cellsAt
      clear hrn hcl HOV HCM HT HE hek
      go_upto_region 7 with fail
      clear c8 c9 c11
      go_wp2_with (first
        | (refine wpList_load_agg rfl 31 (.tmp 2) rfl rfl (cs := dcL V X { d with now := n1 }) agg_E30 HCA.out ?_)
        | (go_at_call 36; refine HCL.out.mono ?_; rintro _ w4 ⟨A9, p9, rfl, o9, K9, L9, rb9⟩)
        | (refine stop_store 31 (.tmp 2) (.tmp 59) rfl ?_))
      constructor
      have I4 := HI2.out.app o9 L9 rb9
      obtain ⟨e4, o4⟩ := And.intro I4.e I4.o
      refine wpList_store_all rfl 31 (.tmp 2) (.tmp 59) rfl rfl rfl (vs := dcL V X rn.1) agg_E30.2 e4 (dcL_one _ _ _) rfl ?_
      intro w5 d5 k5
      have I5 := I4.whole d5 k5
      have HI5 := Lib.hid I5
      have HCA5 := Lib.hid I5.e.cellsAt
      clear I4 I5 e4 o4 o9 K9 L9 rb9 d5 k5 HCL
      obtain ⟨cs5, ho5, hs5⟩ := HI5.out.o
      go_upto_region 8 with fail
      go_wp2_with (first
        | (refine wpList_load_agg rfl 31 (.tmp 2) rfl rfl (cs := dcL V X rn.1) agg_E30 HCA5.out ?_)
        | (refine stop_store 31 (.tmp 4) (.tmp 61) rfl ?_))
      constructor
      refine wpList_store_all rfl 31 (.tmp 4) (.tmp 61) rfl rfl rfl (vs := dcL V X rn.1) agg_E30.2 ho5 (dcL_one _ _ _) hs5.symm ?_
      intro w6 d6 k6
      obtain ⟨oo, KK, _, _⟩ := HI5.out.done k6
      go_wp2
      refine bodyPost_ret (results_blk_tmpD rfl _ rfl rfl d6 agg_E30) rfl ?_
      rw [HC.out]
      rw [Nat.zero_add] at oo
      rw [List.nil_append] at oo
      exact ⟨A9, p9, rfl, oo, KK⟩
    · skip
      have q4 : ((n1 : Int) == (d.due : Int)) = false := by simp; omega
      have q5 : ((n1 : Int) = (d.due : Int)) = False := eq_false (by omega)
      have q6 : (n1 = d.due) = False := eq_false hdu
      have HDU := Lib.hid hdu
      have HC : Hid (tickD X d live = ({ d with now := n1 }, [])) := by show _ = _; rw [HT.out, if_neg (by rintro ⟨h, _⟩; exact h4 h), if_neg (by rintro (⟨h, _⟩ | ⟨_, h⟩); exact h1 h; exact hdu h)]
      have HCA := Lib.hid HI2.out.e.cellsAt
      clear hdu hph h4 h1
      clear HOV HCM HT HE
      obtain ⟨cs5, ho5, hs5⟩ := HI2.out.o
      go_upto_region 8 with fail
      clear c8 c9 c11
      go_wp2_with (first
        | (refine wpList_load_agg rfl 31 (.tmp 2) rfl rfl (cs := dcL V X { d with now := n1 }) agg_E30 HCA.out ?_)
        | (refine stop_store 31 (.tmp 4) (.tmp 61) rfl ?_))
      constructor
      refine wpList_store_all rfl 31 (.tmp 4) (.tmp 61) rfl rfl rfl (vs := dcL V X { d with now := n1 }) agg_E30.2 ho5 (dcL_one _ _ _) hs5.symm ?_
      intro w6 d6 k6
      obtain ⟨oo, KK, _, _⟩ := HI2.out.done k6
      go_wp2
      refine bodyPost_ret (results_blk_tmpD rfl _ rfl rfl d6 agg_E30) rfl ?_
      rw [HC.out]
      exact ⟨none, 0, rfl, World.ownsRow_nil _ _ _ _, KK⟩
  have h2 := hph
  clear hph
  by_cases hph : d.ph = 3
  · skip
    replace c8 : w2.cell? ⟨w.heap.size, 8, none⟩ = some (.int .i64 3) := by rw [c8, hph]; rfl
    by_cases hdu : n1 = d.due
    · skip
      have q4 : ((n1 : Int) == (d.due : Int)) = true := by simp; omega
      have q5 : ((n1 : Int) = (d.due : Int)) = True := eq_true (by omega)
      have q6 : (n1 = d.due) = True := eq_true hdu
      have HDU := Lib.hid hdu
      obtain ⟨k, hk, hek⟩ := HE.out (by omega)
      have hcl := HCM.out k hek hk w2 HI2.out.k
      obtain ⟨rn, hrn⟩ : ∃ rn, comeD1 X live { d with now := n1 } = rn := ⟨_, rfl⟩
      have HC : Hid (tickD X d live = comeD1 X live { d with now := n1 }) := by show _ = _; rw [HT.out, if_neg (by rintro ⟨h, _⟩; exact h4 h), if_pos (.inr ⟨.inr hph, hdu⟩)]
      rw [hrn] at hcl HC
      have HCL := Lib.hid hcl
      clear hdu hph h4 h1 h2
      have HCA := Lib.hid HI2.out.e.cellsAt
      clear hrn hcl HOV HCM HT HE hek
      go_upto_region 7 with fail
      clear c8 c9 c11
      go_wp2_with (first
        | (refine wpList_load_agg rfl 31 (.tmp 2) rfl rfl (cs := dcL V X { d with now := n1 }) agg_E30 HCA.out ?_)
        | (go_at_call 36; refine HCL.out.mono ?_; rintro _ w4 ⟨A9, p9, rfl, o9, K9, L9, rb9⟩)
        | (refine stop_store 31 (.tmp 2) (.tmp 59) rfl ?_))
      constructor
      have I4 := HI2.out.app o9 L9 rb9
      obtain ⟨e4, o4⟩ := And.intro I4.e I4.o
      refine wpList_store_all rfl 31 (.tmp 2) (.tmp 59) rfl rfl rfl (vs := dcL V X rn.1) agg_E30.2 e4 (dcL_one _ _ _) rfl ?_
      intro w5 d5 k5
      have I5 := I4.whole d5 k5
      have HI5 := Lib.hid I5
      have HCA5 := Lib.hid I5.e.cellsAt
      clear I4 I5 e4 o4 o9 K9 L9 rb9 d5 k5 HCL
      obtain ⟨cs5, ho5, hs5⟩ := HI5.out.o
      go_upto_region 8 with fail
      go_wp2_with (first
        | (refine wpList_load_agg rfl 31 (.tmp 2) rfl rfl (cs := dcL V X rn.1) agg_E30 HCA5.out ?_)
        | (refine stop_store 31 (.tmp 4) (.tmp 61) rfl ?_))
      constructor
      refine wpList_store_all rfl 31 (.tmp 4) (.tmp 61) rfl rfl rfl (vs := dcL V X rn.1) agg_E30.2 ho5 (dcL_one _ _ _) hs5.symm ?_
      intro w6 d6 k6
      obtain ⟨oo, KK, _, _⟩ := HI5.out.done k6
      go_wp2
      refine bodyPost_ret (results_blk_tmpD rfl _ rfl rfl d6 agg_E30) rfl ?_
      rw [HC.out]
      rw [Nat.zero_add] at oo
      rw [List.nil_append] at oo
      exact ⟨A9, p9, rfl, oo, KK⟩
    · skip
      have q4 : ((n1 : Int) == (d.due : Int)) = false := by simp; omega
      have q5 : ((n1 : Int) = (d.due : Int)) = False := eq_false (by omega)
      have q6 : (n1 = d.due) = False := eq_false hdu
      have HDU := Lib.hid hdu
      have HC : Hid (tickD X d live = ({ d with now := n1 }, [])) := by show _ = _; rw [HT.out, if_neg (by rintro ⟨h, _⟩; exact h4 h), if_neg (by rintro (⟨h, _⟩ | ⟨_, h⟩); exact h1 h; exact hdu h)]
      have HCA := Lib.hid HI2.out.e.cellsAt
      clear hdu hph h4 h1 h2
      clear HOV HCM HT HE
      obtain ⟨cs5, ho5, hs5⟩ := HI2.out.o
      go_upto_region 8 with fail
      clear c8 c9 c11
      go_wp2_with (first
        | (refine wpList_load_agg rfl 31 (.tmp 2) rfl rfl (cs := dcL V X { d with now := n1 }) agg_E30 HCA.out ?_)
        | (refine stop_store 31 (.tmp 4) (.tmp 61) rfl ?_))
      constructor
      refine wpList_store_all rfl 31 (.tmp 4) (.tmp 61) rfl rfl rfl (vs := dcL V X { d with now := n1 }) agg_E30.2 ho5 (dcL_one _ _ _) hs5.symm ?_
      intro w6 d6 k6
      obtain ⟨oo, KK, _, _⟩ := HI2.out.done k6
      go_wp2
      refine bodyPost_ret (results_blk_tmpD rfl _ rfl rfl d6 agg_E30) rfl ?_
      rw [HC.out]
      exact ⟨none, 0, rfl, World.ownsRow_nil _ _ _ _, KK⟩
  have h3 := hph
  clear hph
  have q1 : ¬ (d.ph : Int) = 1 := by omega
  have q2 : ¬ (d.ph : Int) = 2 := by omega
  have q3 : ¬ (d.ph : Int) = 3 := by omega
  have q4 : ¬ (d.ph : Int) = 4 := by omega
  have HC : Hid (tickD X d live = ({ d with now := n1 }, [])) := by show _ = _; rw [HT.out, if_neg (by rintro ⟨h, _⟩; exact h4 h), if_neg (by rintro (⟨h, _⟩ | ⟨h | h, _⟩); exact h1 h; exact h2 h; exact h3 h)]
  have HCA := Lib.hid HI2.out.e.cellsAt
  skip
  clear HOV HCM HT HE
  obtain ⟨cs5, ho5, hs5⟩ := HI2.out.o
  go_upto_region 8 with fail
  clear c8 c9 c11
  go_wp2_with (first
    | (refine wpList_load_agg rfl 31 (.tmp 2) rfl rfl (cs := dcL V X { d with now := n1 }) agg_E30 HCA.out ?_)
    | (refine stop_store 31 (.tmp 4) (.tmp 61) rfl ?_))
  constructor
  refine wpList_store_all rfl 31 (.tmp 4) (.tmp 61) rfl rfl rfl (vs := dcL V X { d with now := n1 }) agg_E30.2 ho5 (dcL_one _ _ _) hs5.symm ?_
  intro w6 d6 k6
  obtain ⟨oo, KK, _, _⟩ := HI2.out.done k6
  go_wp2
  refine bodyPost_ret (results_blk_tmpD rfl _ rfl rfl d6 agg_E30) rfl ?_
  rw [HC.out]
  exact ⟨none, 0, rfl, World.ownsRow_nil _ _ _ _, KK⟩
end
end Go.Proofs.YteflgdnekflbbaaGreatDoor

namespace Go.Proofs.YteflgdnekflbbaaGreatDoor
open Go.RowKit
attribute [local go_sem] Oper.semAt_some

/-- What is behind Ask: the engine, what happened, and the number of the error. -/
def RetAskD (w : World) (V : DcV) (X : ChX) (r : DcS × List Nw × Int) (e : Ending) (w' : World) : Prop :=
  ∃ A p, e = .returned (.tuple #[.agg (dcL V X r.1).toArray, .slice A r.2.1.length p, .int .i64 r.2.2]) ∧ w'.ownsRow w.heap.size 86 4 (.slice A r.2.1.length p) r.2.1.length (dnV r.2.1) ∧ Keep [] w w'
section
variable {w : World} {V : DcV} {X : ChX} {d : DcS}
set_option maxRecDepth 100000 in
set_option maxHeartbeats 2000000 in
theorem dask30_any (g : ChG X) (hX : DcX w V X) {s : EnS} (hR : RelE X s d) (hnow : d.now < 4000000000000000000) (md : Int) (live : Bool) :
    Calls Tryz.prog 7 #[.agg (dcL V X d).toArray, .int .i64 md, .bool live] w (RetAskD w V X (askD X d md live)) := by
  obtain ⟨W1, hW1⟩ : ∃ W1, (w.alloc (.cells (dcL V X d).toArray 31)).alloc (.cells #[.int .i64 0, .slice none 0 0, .slice none 0 0, .slice none 0 0, .slice none 0 0, .slice none 0 0, .int .i64 0, .int .i64 0, .int .i64 0, .int .i64 0, .int .i64 0, .int .i64 0, .int .i64 0] 31) = W1 := ⟨_, rfl⟩
  have I1 : DcI w w [] W1 V X d w.heap.size (w.heap.size + 1) none 0 0 [] := by
    rw [← hW1]; exact DcI.start (Keep.refl _ _) (World.ownsRow_nil _ _ _ _)
  obtain ⟨⟨c2, c3, _, _⟩, ⟨c6, c7, c8, _⟩, _, _, c12⟩ := dc_cells I1.e
  have HW := Lib.hid hW1
  have HI1 := Lib.hid I1
  have HED := Lib.hid (fun k (he : d.edge = some k) => (show k < X.x.edges.length from by
    rcases hR.ph_edge with ⟨h1, _, _⟩ | ⟨k', hk, h2, _⟩
    · rw [h1] at he; cases he
    · rw [h2] at he; cases he; exact hk))
  have HDG := Lib.hid (fun k (hk : k < X.x.edges.length) => hX.edge hk)
  have HBG := Lib.hid (fun k (hk : k < X.x.edges.length) (hh : d.held = none) w2 (K2 : Keep [] w w2) => dbegin0_any g hX (d := d) K2 (World.ownsRow_nil w2 w.heap.size 86 4) 10 (by omega) (Nat.zero_le _) hk hh (by omega) live)
  have HTO := Lib.hid (fun k (hk : k < X.x.edges.length) => g.to hk)
  have hl := (hX.img w (Keep.refl _ _)).le
  unfold maxLen at hl
  have HFI := Lib.hid (fun f t w2 (K2 : Keep [] w w2) => dfind_any V.v X.x f t w2 (hX.img w2 K2))
  have HCA := Lib.hid I1.e.cellsAt
  have HCI := Lib.hid (dc_img I1.e)
  have HIL : Hid ((imgCells V.v X.x).length = 4) := show _ = _ from rfl
  have HK := Lib.hid I1.k
  clear hW1 I1 hX hR g
  by_cases h0 : md < 0
  · skip
    go_enter Tryz.func7, Tryz.ntmps7
    have HC : Hid (askD X d md live = (d, [], 101)) := by show _ = _; unfold askD; rw [if_pos (.inl h0)]
    obtain ⟨cs5, ho5, hs5⟩ := HI1.out.o
    go_upto_region 2 with (first | rw [HW.out] | fail)
    clear c2 c3 c6 c7 c8 c12
    go_wp2_with (first
      | (refine wpList_load_agg rfl 31 (.tmp 3) rfl rfl (cs := dcL V X d) agg_E30 HCA.out ?_)
      | (refine stop_store 31 (.tmp 6) (.tmp 22) rfl ?_))
    constructor
    refine wpList_store_all rfl 31 (.tmp 6) (.tmp 22) rfl rfl rfl (vs := dcL V X d) agg_E30.2 ho5 (dcL_one _ _ _) hs5.symm ?_
    intro w6 d6 k6
    obtain ⟨oo, KK, _, _⟩ := HI1.out.done k6
    go_wp2
    refine bodyPost_ret (results_cell_two rfl _ rfl rfl rfl d6 agg_E30) rfl ?_
    rw [HC.out]
    exact ⟨none, 0, rfl, World.ownsRow_nil _ _ _ _, KK⟩
  by_cases h1 : (X.x.modes.length : Int) ≤ md
  · skip
    go_enter Tryz.func7, Tryz.ntmps7
    have HC : Hid (askD X d md live = (d, [], 101)) := by show _ = _; unfold askD; rw [if_pos (.inr h1)]
    obtain ⟨cs5, ho5, hs5⟩ := HI1.out.o
    go_upto_region 2 with (first | rw [HW.out] | fail)
    clear c2 c3 c6 c7 c8 c12
    go_wp2_with (first
      | (refine wpList_load_agg rfl 31 (.tmp 3) rfl rfl (cs := dcL V X d) agg_E30 HCA.out ?_)
      | (refine stop_store 31 (.tmp 6) (.tmp 22) rfl ?_))
    constructor
    refine wpList_store_all rfl 31 (.tmp 6) (.tmp 22) rfl rfl rfl (vs := dcL V X d) agg_E30.2 ho5 (dcL_one _ _ _) hs5.symm ?_
    intro w6 d6 k6
    obtain ⟨oo, KK, _, _⟩ := HI1.out.done k6
    go_wp2
    refine bodyPost_ret (results_cell_two rfl _ rfl rfl rfl d6 agg_E30) rfl ?_
    rw [HC.out]
    exact ⟨none, 0, rfl, World.ownsRow_nil _ _ _ _, KK⟩
  have hm : ¬ (md < 0 ∨ (X.x.modes.length : Int) ≤ md) := by omega
  cases hh : d.held with
  | some hd =>
    rw [hh] at c12
    replace c12 : W1.cell? ⟨w.heap.size, 12, none⟩ = some (.int .i64 (hd : Int)) := c12
    have q0 : (0 : Int) ≤ (hd : Int) := by omega
    have HH := Lib.hid hh
    have hc : askD X d md live = (d, [], 300) := by unfold askD; rw [if_neg hm, if_pos (by rw [hh]; rfl)]
    have HC0 := Lib.hid hc
    clear hh hc
    go_enter Tryz.func7, Tryz.ntmps7
    have HC : Hid (askD X d md live = (d, [], 300)) := by show _ = _; exact HC0.out
    obtain ⟨cs5, ho5, hs5⟩ := HI1.out.o
    go_upto_region 4 with (first | rw [HW.out] | fail)
    clear c2 c3 c6 c7 c8 c12
    go_wp2_with (first
      | (refine wpList_load_agg rfl 31 (.tmp 3) rfl rfl (cs := dcL V X d) agg_E30 HCA.out ?_)
      | (refine stop_store 31 (.tmp 6) (.tmp 26) rfl ?_))
    constructor
    refine wpList_store_all rfl 31 (.tmp 6) (.tmp 26) rfl rfl rfl (vs := dcL V X d) agg_E30.2 ho5 (dcL_one _ _ _) hs5.symm ?_
    intro w6 d6 k6
    obtain ⟨oo, KK, _, _⟩ := HI1.out.done k6
    go_wp2
    refine bodyPost_ret (results_cell_two rfl _ rfl rfl rfl d6 agg_E30) rfl ?_
    rw [HC.out]
    exact ⟨none, 0, rfl, World.ownsRow_nil _ _ _ _, KK⟩
  | none =>
    rw [hh] at c12
    replace c12 : W1.cell? ⟨w.heap.size, 12, none⟩ = some (.int .i64 (-1)) := c12
    have HH := Lib.hid hh
    have hc : askD X d md live = (match edgeAt X.x.edges (tgt X d.mode d.edge : Int) md with
      | none => (d, [], 301)
      | some i => if d.ph ≠ 0 then ({ d with held := some md.toNat }, [], 0) else ((beginD X d i live).1, (beginD X d i live).2, 0)) := by
      unfold askD
      rw [if_neg hm, if_neg (by rw [hh]; simp)]
      cases edgeAt X.x.edges (tgt X d.mode d.edge : Int) md <;> rfl
    have HC0 := Lib.hid hc
    clear hh hc hm
    cases hed : d.edge with
    | none =>
      have HFI1 := Lib.hid (HFI.out (tgt X d.mode d.edge : Int) md W1 HK.out)
      obtain ⟨rr, hrr⟩ : ∃ rr, edgeAt X.x.edges (tgt X d.mode d.edge : Int) md = rr := ⟨_, rfl⟩
      rw [hrr] at HFI1 HC0
      have HRR := Lib.hid hrr
      clear hrr HFI
      replace c7 : W1.cell? ⟨w.heap.size, 7, none⟩ = some (.int .i64 (-1)) := by rw [c7, hed]; rfl
      have etg : tgt X d.mode d.edge = d.mode := by unfold tgt; rw [hed]
      rw [etg] at HFI1
      clear hed etg
      generalize imgCells V.v X.x = il at *
      go_enter Tryz.func7, Tryz.ntmps7
      go_upto_region 8 with (rw [HW.out])
      cases rr with
      | none =>
        go_upto_region 10 with (first
          | (refine wpList_load_agg rfl 26 (.tmp 40) rfl rfl (cs := il) (by rw [HIL.out]; exact agg_image) HCI.out ?_)
          | (go_at_call 23; refine HFI1.out.mono ?_; rintro _ w8 ⟨rfl, k8⟩))
        have HI8 := Lib.hid (HI1.out.keep0 k8)
        have HCA8 := Lib.hid HI8.out.e.cellsAt
        obtain ⟨cs5, ho5, hs5⟩ := HI8.out.o
        clear c2 c3 c6 c7 c8 c12 k8
        go_wp2_with (first
          | (refine wpList_load_agg rfl 31 (.tmp 3) rfl rfl (cs := dcL V X d) agg_E30 HCA8.out ?_)
          | (refine stop_store 31 (.tmp 6) (.tmp 47) rfl ?_))
        constructor
        refine wpList_store_all rfl 31 (.tmp 6) (.tmp 47) rfl rfl rfl (vs := dcL V X d) agg_E30.2 ho5 (dcL_one _ _ _) hs5.symm ?_
        intro w9 d9 k9
        obtain ⟨oo, KK, _, _⟩ := HI8.out.done k9
        go_wp2
        refine bodyPost_ret (results_cell_two rfl _ rfl rfl rfl d9 agg_E30) rfl ?_
        rw [HC0.out]
        exact ⟨none, 0, rfl, World.ownsRow_nil _ _ _ _, KK⟩
      | some i =>
        have hik : i < X.x.edges.length := (edgeAt_is HRR.out).1
        have HC1 : Hid (askD X d md live = (if d.ph ≠ 0 then ({ d with held := some md.toNat }, [], 0) else ((beginD X d i live).1, (beginD X d i live).2, 0))) := HC0.out
        have qi : ¬ (i : Int) < 0 := by omega
        by_cases hp : d.ph = 0
        · have HC2 : Hid (askD X d md live = ((beginD X d i live).1, (beginD X d i live).2, 0)) := by show _ = _; rw [HC1.out, if_neg (by omega)]
          have hcl := HBG.out i hik HH.out
          obtain ⟨rn, hrn⟩ : ∃ rn, beginD X d i live = rn := ⟨_, rfl⟩
          simp only [hrn] at hcl
          rw [hrn] at HC2
          have HCL := Lib.hid hcl
          clear hrn hcl HBG
          have HPH := Lib.hid hp
          clear hp c8
          go_upto_region 11 with (first
            | (refine wpList_load_agg rfl 26 (.tmp 40) rfl rfl (cs := il) (by rw [HIL.out]; exact agg_image) HCI.out ?_)
            | (go_at_call 23; refine HFI1.out.mono ?_; rintro _ w8 ⟨rfl, k8⟩))
          have HI8 := Lib.hid (HI1.out.keep0 k8)
          have c8 := (dc_cells HI8.out.e).2.1.2.2.1
          rw [HPH.out] at c8
          replace c8 : w8.cell? ⟨w.heap.size, 8, none⟩ = some (.int .i64 0) := c8
          have HCA8 := Lib.hid HI8.out.e.cellsAt
          have hcl8 := Lib.hid (HCL.out w8 HI8.out.k)
          clear c2 c3 c6 c7 c12 k8
          rw [show optI (some i) = (i : Int) from rfl]
          go_upto_region 15 with fail
          clear c8
          go_wp2_with (first
            | (refine wpList_load_agg rfl 31 (.tmp 3) rfl rfl (cs := dcL V X d) agg_E30 HCA8.out ?_)
            | (go_at_call 24; refine hcl8.out.mono ?_; rintro _ w9 ⟨A9, p9, rfl, o9, K9, L9, rb9⟩)
            | (refine stop_store 31 (.tmp 3) (.tmp 59) rfl ?_))
          constructor
          have I9 := HI8.out.app o9 L9 rb9
          obtain ⟨e9, q9⟩ := And.intro I9.e I9.o
          refine wpList_store_all rfl 31 (.tmp 3) (.tmp 59) rfl rfl rfl (vs := dcL V X rn.1) agg_E30.2 e9 (dcL_one _ _ _) rfl ?_
          intro w10 d10 k10
          have I10 := I9.whole d10 k10
          have HI10 := Lib.hid I10
          have HCA10 := Lib.hid I10.e.cellsAt
          clear I9 I10 e9 q9 o9 K9 L9 rb9 d10 k10 HCL hcl8
          obtain ⟨cs5, ho5, hs5⟩ := HI10.out.o
          go_upto_region 16 with fail
          go_wp2_with (first
            | (refine wpList_load_agg rfl 31 (.tmp 3) rfl rfl (cs := dcL V X rn.1) agg_E30 HCA10.out ?_)
            | (refine stop_store 31 (.tmp 6) (.tmp 61) rfl ?_))
          constructor
          refine wpList_store_all rfl 31 (.tmp 6) (.tmp 61) rfl rfl rfl (vs := dcL V X rn.1) agg_E30.2 ho5 (dcL_one _ _ _) hs5.symm ?_
          intro w11 d11 k11
          obtain ⟨oo, KK, _, _⟩ := HI10.out.done k11
          go_wp2
          refine bodyPost_ret (results_cell_two rfl _ rfl rfl rfl d11 agg_E30) rfl ?_
          rw [HC2.out]
          rw [Nat.zero_add] at oo
          rw [List.nil_append] at oo
          exact ⟨A9, p9, rfl, oo, KK⟩
        · have HC2 : Hid (askD X d md live = ({ d with held := some md.toNat }, [], 0)) := by show _ = _; rw [HC1.out, if_pos hp]
          have qp : ¬ (d.ph : Int) = 0 := by omega
          have hmm : ((md.toNat : Nat) : Int) = md := by omega
          have HMM := Lib.hid hmm
          clear hmm
          go_upto_region 11 with (first
            | (refine wpList_load_agg rfl 26 (.tmp 40) rfl rfl (cs := il) (by rw [HIL.out]; exact agg_image) HCI.out ?_)
            | (go_at_call 23; refine HFI1.out.mono ?_; rintro _ w8 ⟨rfl, k8⟩))
          have I8 := HI1.out.keep0 k8
          have d8 := (dc_cells I8.e).2.1.2.2.1
          have d12 := (dc_cells I8.e).2.2.2.2
          have f12 := I8.e.frozen 12
          have I9 := I8.put 12 (.int .i64 md) (d' := { d with held := some md.toNat }) (by
            show _ = (dcL V X { d with held := some md.toNat }).toArray
            simp only [dcL, optI, HMM.out]
            rfl)
          have HI9 := Lib.hid I9
          have HCA9 := Lib.hid I9.e.cellsAt
          clear c2 c3 c6 c7 c8 c12 k8 I8 I9
          rw [show optI (some i) = (i : Int) from rfl]
          go_upto_region 13 with fail
          clear d8 d12 f12
          generalize w8.setCell ⟨w.heap.size, 12, none⟩ (.int .i64 md) = w9 at *
          obtain ⟨cs5, ho5, hs5⟩ := HI9.out.o
          go_wp2_with (first
            | (refine wpList_load_agg rfl 31 (.tmp 3) rfl rfl (cs := dcL V X { d with held := some md.toNat }) agg_E30 HCA9.out ?_)
            | (refine stop_store 31 (.tmp 6) (.tmp 53) rfl ?_))
          constructor
          refine wpList_store_all rfl 31 (.tmp 6) (.tmp 53) rfl rfl rfl (vs := dcL V X { d with held := some md.toNat }) agg_E30.2 ho5 (dcL_one _ _ _) hs5.symm ?_
          intro w10 d10 k10
          obtain ⟨oo, KK, _, _⟩ := HI9.out.done k10
          go_wp2
          refine bodyPost_ret (results_cell_two rfl _ rfl rfl rfl d10 agg_E30) rfl ?_
          rw [HC2.out]
          exact ⟨none, 0, rfl, World.ownsRow_nil _ _ _ _, KK⟩
    | some k =>
      have HFI1 := Lib.hid (HFI.out (tgt X d.mode d.edge : Int) md W1 HK.out)
      obtain ⟨rr, hrr⟩ : ∃ rr, edgeAt X.x.edges (tgt X d.mode d.edge : Int) md = rr := ⟨_, rfl⟩
      rw [hrr] at HFI1 HC0
      have HRR := Lib.hid hrr
      clear hrr HFI
      have hk := HED.out k hed
      obtain ⟨eb, eo, hA, hc⟩ := HDG.out k hk
      have etg : tgt X d.mode d.edge = eTo X.x k := by unfold tgt; rw [hed]
      rw [etg] at HFI1
      replace c7 : W1.cell? ⟨w.heap.size, 7, none⟩ = some (.int .i64 (k : Int)) := by rw [c7, hed]; rfl
      rw [hA] at c3
      have ce : W1.cell? ⟨eb, eo + k * 23 + 1, none⟩ = some (.int .i64 (eTo X.x k : Int)) := by rw [← HTO.out k hk]; exact hc W1 HK.out 1 _ rfl
      have p0 : (0 : Int) ≤ (k : Int) := by omega
      have p1 : (k : Int) < (X.x.edges.length : Int) := by omega
      clear hed etg hc
      generalize imgCells V.v X.x = il at *
      go_enter Tryz.func7, Tryz.ntmps7
      go_upto_region 8 with (rw [HW.out])
      cases rr with
      | none =>
        go_upto_region 10 with (first
          | (refine wpList_load_agg rfl 26 (.tmp 40) rfl rfl (cs := il) (by rw [HIL.out]; exact agg_image) HCI.out ?_)
          | (go_at_call 23; refine HFI1.out.mono ?_; rintro _ w8 ⟨rfl, k8⟩))
        have HI8 := Lib.hid (HI1.out.keep0 k8)
        have HCA8 := Lib.hid HI8.out.e.cellsAt
        obtain ⟨cs5, ho5, hs5⟩ := HI8.out.o
        clear c2 c3 c6 c7 c8 c12 k8 ce
        go_wp2_with (first
          | (refine wpList_load_agg rfl 31 (.tmp 3) rfl rfl (cs := dcL V X d) agg_E30 HCA8.out ?_)
          | (refine stop_store 31 (.tmp 6) (.tmp 47) rfl ?_))
        constructor
        refine wpList_store_all rfl 31 (.tmp 6) (.tmp 47) rfl rfl rfl (vs := dcL V X d) agg_E30.2 ho5 (dcL_one _ _ _) hs5.symm ?_
        intro w9 d9 k9
        obtain ⟨oo, KK, _, _⟩ := HI8.out.done k9
        go_wp2
        refine bodyPost_ret (results_cell_two rfl _ rfl rfl rfl d9 agg_E30) rfl ?_
        rw [HC0.out]
        exact ⟨none, 0, rfl, World.ownsRow_nil _ _ _ _, KK⟩
      | some i =>
        have hik : i < X.x.edges.length := (edgeAt_is HRR.out).1
        have HC1 : Hid (askD X d md live = (if d.ph ≠ 0 then ({ d with held := some md.toNat }, [], 0) else ((beginD X d i live).1, (beginD X d i live).2, 0))) := HC0.out
        have qi : ¬ (i : Int) < 0 := by omega
        by_cases hp : d.ph = 0
        · have HC2 : Hid (askD X d md live = ((beginD X d i live).1, (beginD X d i live).2, 0)) := by show _ = _; rw [HC1.out, if_neg (by omega)]
          have hcl := HBG.out i hik HH.out
          obtain ⟨rn, hrn⟩ : ∃ rn, beginD X d i live = rn := ⟨_, rfl⟩
          simp only [hrn] at hcl
          rw [hrn] at HC2
          have HCL := Lib.hid hcl
          clear hrn hcl HBG
          have HPH := Lib.hid hp
          clear hp c8
          go_upto_region 11 with (first
            | (refine wpList_load_agg rfl 26 (.tmp 40) rfl rfl (cs := il) (by rw [HIL.out]; exact agg_image) HCI.out ?_)
            | (go_at_call 23; refine HFI1.out.mono ?_; rintro _ w8 ⟨rfl, k8⟩))
          have HI8 := Lib.hid (HI1.out.keep0 k8)
          have c8 := (dc_cells HI8.out.e).2.1.2.2.1
          rw [HPH.out] at c8
          replace c8 : w8.cell? ⟨w.heap.size, 8, none⟩ = some (.int .i64 0) := c8
          have HCA8 := Lib.hid HI8.out.e.cellsAt
          have hcl8 := Lib.hid (HCL.out w8 HI8.out.k)
          clear c2 c3 c6 c7 c12 k8 ce
          rw [show optI (some i) = (i : Int) from rfl]
          go_upto_region 15 with fail
          clear c8
          go_wp2_with (first
            | (refine wpList_load_agg rfl 31 (.tmp 3) rfl rfl (cs := dcL V X d) agg_E30 HCA8.out ?_)
            | (go_at_call 24; refine hcl8.out.mono ?_; rintro _ w9 ⟨A9, p9, rfl, o9, K9, L9, rb9⟩)
            | (refine stop_store 31 (.tmp 3) (.tmp 59) rfl ?_))
          constructor
          have I9 := HI8.out.app o9 L9 rb9
          obtain ⟨e9, q9⟩ := And.intro I9.e I9.o
          refine wpList_store_all rfl 31 (.tmp 3) (.tmp 59) rfl rfl rfl (vs := dcL V X rn.1) agg_E30.2 e9 (dcL_one _ _ _) rfl ?_
          intro w10 d10 k10
          have I10 := I9.whole d10 k10
          have HI10 := Lib.hid I10
          have HCA10 := Lib.hid I10.e.cellsAt
          clear I9 I10 e9 q9 o9 K9 L9 rb9 d10 k10 HCL hcl8
          obtain ⟨cs5, ho5, hs5⟩ := HI10.out.o
          go_upto_region 16 with fail
          go_wp2_with (first
            | (refine wpList_load_agg rfl 31 (.tmp 3) rfl rfl (cs := dcL V X rn.1) agg_E30 HCA10.out ?_)
            | (refine stop_store 31 (.tmp 6) (.tmp 61) rfl ?_))
          constructor
          refine wpList_store_all rfl 31 (.tmp 6) (.tmp 61) rfl rfl rfl (vs := dcL V X rn.1) agg_E30.2 ho5 (dcL_one _ _ _) hs5.symm ?_
          intro w11 d11 k11
          obtain ⟨oo, KK, _, _⟩ := HI10.out.done k11
          go_wp2
          refine bodyPost_ret (results_cell_two rfl _ rfl rfl rfl d11 agg_E30) rfl ?_
          rw [HC2.out]
          rw [Nat.zero_add] at oo
          rw [List.nil_append] at oo
          exact ⟨A9, p9, rfl, oo, KK⟩
        · have HC2 : Hid (askD X d md live = ({ d with held := some md.toNat }, [], 0)) := by show _ = _; rw [HC1.out, if_pos hp]
          have qp : ¬ (d.ph : Int) = 0 := by omega
          have hmm : ((md.toNat : Nat) : Int) = md := by omega
          have HMM := Lib.hid hmm
          clear hmm
          go_upto_region 11 with (first
            | (refine wpList_load_agg rfl 26 (.tmp 40) rfl rfl (cs := il) (by rw [HIL.out]; exact agg_image) HCI.out ?_)
            | (go_at_call 23; refine HFI1.out.mono ?_; rintro _ w8 ⟨rfl, k8⟩))
          have I8 := HI1.out.keep0 k8
          have d8 := (dc_cells I8.e).2.1.2.2.1
          have d12 := (dc_cells I8.e).2.2.2.2
          have f12 := I8.e.frozen 12
          have I9 := I8.put 12 (.int .i64 md) (d' := { d with held := some md.toNat }) (by
            show _ = (dcL V X { d with held := some md.toNat }).toArray
            simp only [dcL, optI, HMM.out]
            rfl)
          have HI9 := Lib.hid I9
          have HCA9 := Lib.hid I9.e.cellsAt
          clear c2 c3 c6 c7 c8 c12 k8 ce I8 I9
          rw [show optI (some i) = (i : Int) from rfl]
          go_upto_region 13 with fail
          clear d8 d12 f12
          generalize w8.setCell ⟨w.heap.size, 12, none⟩ (.int .i64 md) = w9 at *
          obtain ⟨cs5, ho5, hs5⟩ := HI9.out.o
          go_wp2_with (first
            | (refine wpList_load_agg rfl 31 (.tmp 3) rfl rfl (cs := dcL V X { d with held := some md.toNat }) agg_E30 HCA9.out ?_)
            | (refine stop_store 31 (.tmp 6) (.tmp 53) rfl ?_))
          constructor
          refine wpList_store_all rfl 31 (.tmp 6) (.tmp 53) rfl rfl rfl (vs := dcL V X { d with held := some md.toNat }) agg_E30.2 ho5 (dcL_one _ _ _) hs5.symm ?_
          intro w10 d10 k10
          obtain ⟨oo, KK, _, _⟩ := HI9.out.done k10
          go_wp2
          refine bodyPost_ret (results_cell_two rfl _ rfl rfl rfl d10 agg_E30) rfl ?_
          rw [HC2.out]
          exact ⟨none, 0, rfl, World.ownsRow_nil _ _ _ _, KK⟩
end
end Go.Proofs.YteflgdnekflbbaaGreatDoor

namespace Go.Proofs.YteflgdnekflbbaaGreatDoor
open Go.RowKit
attribute [local go_sem] Oper.semAt_some

theorem DcX.mode {W0 : World} {V : DcV} {X : ChX} (h : DcX W0 V X) (h0 : 0 < X.x.modes.length) : ∃ bb o, V.v.ma = some ⟨bb, o, none⟩ ∧ ∀ (k : Nat), k < X.x.modes.length → ∀ w', Keep [] W0 w' → w'.cell? ⟨bb, o + k * 2, none⟩ = some (.int .u32 (setOf10 X.x (k : Int) : Int)) := by
  obtain ⟨bb, o, hA, hb, hc⟩ := (h.img W0 (Keep.refl _ _)).mode h0
  refine ⟨bb, o, hA, fun k hk w' kk => ?_⟩
  obtain ⟨A, c, h1, _⟩ := hc k hk
  have h2 := h1 0 _ rfl
  rw [Nat.add_zero] at h2
  rw [setOf10_get hk]
  exact (kk.cell (p := ⟨bb, o + k * 2, none⟩) hb (by simp)).trans h2
/-- What the loop has found behind the first k tasks. -/
def opnK (X : ChX) (d : DcS) (e : Nat) (k : Nat) : Nat :=
  ((List.range k).filter (fun (i : Nat) => has10 (setOf10 X.x (eTo X.x e : Int)) (i : Int) && (has10 (setOf10 X.x (d.mode : Int)) (i : Int) || decide (eOff X.x e i ≤ ((d.now - d.since : Nat) : Int))))).foldl (fun (o i : Nat) => o + 2 ^ i) 0
theorem opnK_lt (X : ChX) (d : DcS) (e k : Nat) : opnK X d e k < 2 ^ k := (sumBits_bit _ k).1
theorem opnK_next (X : ChX) (d : DcS) (e k : Nat) : opnK X d e (k + 1) = (if (has10 (setOf10 X.x (eTo X.x e : Int)) (k : Int) && (has10 (setOf10 X.x (d.mode : Int)) (k : Int) || decide (eOff X.x e k ≤ ((d.now - d.since : Nat) : Int)))) = true then opnK X d e k + 2 ^ k else opnK X d e k) := by
  unfold opnK
  rw [List.range_succ, List.filter_append, List.foldl_append]
  split
  · rename_i h
    rw [List.filter_cons_of_pos (by simpa using h)]; rfl
  · rename_i h
    rw [List.filter_cons_of_neg (by simpa using h)]; rfl
theorem opn_add {a k : Nat} (hk : k < 16) (ha : a < 2 ^ k) : ((a : Int) + 2 ^ k % 4294967296) % 4294967296 = ((a + 2 ^ k : Nat) : Int) := by
  have h1 : 2 ^ k ≤ 2 ^ 15 := Nat.pow_le_pow_right (by decide) (by omega)
  have h2 : a + 2 ^ k < 4294967296 := by omega
  rw [pow_mod32 (by omega), ← Int.natCast_add]
  exact Int.emod_eq_of_lt (Int.natCast_nonneg _) (by omega)
section
variable {w : World} {V : DcV} {X : ChX} {d : DcS}
set_option maxRecDepth 100000 in
set_option maxHeartbeats 4000000 in
theorem dopen_any (g : ChG X) (hX : DcX w V X) {s : EnS} (hR : RelE X s d) (hnow : d.now < 4000000000000000000) :
    Calls Tryz.prog 28 #[.agg (dcL V X d).toArray] w fun e w' => e = .returned (.int .u32 (openD X d : Int)) ∧ Keep [] w w' := by
  obtain ⟨W1, hW1⟩ : ∃ W1, w.alloc (.cells (dcL V X d).toArray 31) = W1 := ⟨_, rfl⟩
  have b1 : Blk W1 w.heap.size 31 (dcL V X d).toArray := by rw [← hW1]; exact Blk.new _ _ _
  have K1 : Keep [] w W1 := by rw [← hW1]; exact (Keep.refl _ w).alloc _
  have hml : d.mode < X.x.modes.length := by rw [← hR.mode]; exact hR.len
  obtain ⟨mb, mo, hMA, hmc⟩ := hX.mode (by omega)
  obtain ⟨⟨c2, c3, _, _⟩, ⟨c6, c7, c8, c9⟩, c10, _, _⟩ := dc_cells b1
  have HW := Lib.hid hW1
  have hlm := (hX.img w (Keep.refl _ _)).lm
  have hle := (hX.img w (Keep.refl _ _)).le
  unfold maxLen at hlm hle
  have cm := hmc d.mode hml W1 K1
  rw [hMA] at c2
  have m0 : (0 : Int) ≤ (d.mode : Int) := by omega
  have m1 : (d.mode : Int) < (X.x.modes.length : Int) := by omega
  clear hW1
  by_cases hp2 : d.ph = 2
  · have HC : Hid (openD X d = 0) := by show _ = _; unfold openD; rw [if_pos hp2]
    replace c8 : W1.cell? ⟨w.heap.size, 8, none⟩ = some (.int .i64 2) := by rw [c8, hp2]; rfl
    clear hp2 b1 hR hX hmc
    go_enter Tryz.func28, Tryz.ntmps28
    go_wp2_with (rw [HW.out])
    go_ret
    rw [HC.out]
    exact ⟨rfl, K1⟩
  by_cases hp3 : d.ph = 3
  · replace c8 : W1.cell? ⟨w.heap.size, 8, none⟩ = some (.int .i64 3) := by rw [c8, hp3]; rfl
    obtain ⟨e, he, hed⟩ : ∃ e, e < X.x.edges.length ∧ d.edge = some e := tick_ph hR (by omega)
    have hps : d.since ≤ d.now := by rw [← hR.since, ← hR.now]; exact hR.past
    obtain ⟨eb, eo, hEA, hec⟩ := hX.edge he
    rw [hEA] at c3
    replace c7 : W1.cell? ⟨w.heap.size, 7, none⟩ = some (.int .i64 (e : Int)) := by rw [c7, hed]; rfl
    have HC : Hid (openD X d = opnK X d e 16) := by
      show _ = _
      unfold openD opnK
      rw [if_neg hp2, if_pos hp3, hed]
      rfl
    have htl : eTo X.x e < X.x.modes.length := ft_len g he
    have hsm := g.s16 (d.mode : Int)
    have hst := g.s16 (eTo X.x e : Int)
    have HH1 := fun (k : Nat) W => Lib.hid (has10_any (setOf10 X.x (d.mode : Int)) (k : Int) W (by omega))
    have HH2 := fun (k : Nat) W => Lib.hid (has10_any (setOf10 X.x (eTo X.x e : Int)) (k : Int) W (by omega))
    have ho16 : (edg X.x e).offs.length = 16 := by rw [edg_at he]; exact g.ok.offs _ (List.getElem_mem he)
    have h23 : (edgCells (edg X.x e)).length = 23 := by rw [edg_at he]; exact edgCells_len (g.ok.offs _ (List.getElem_mem he)) (g.ok.mp _ (List.getElem_mem he))
    have HEC := Lib.hid (hec W1 K1)
    have HL23 := Lib.hid h23
    have HIO : Hid (∀ u ∈ edgCells (edg X.x e), u.oneCell' = true) := iv_one _
    have gto := g.to he
    have hoc : ∀ k, k < 16 → (edgCells (edg X.x e))[k + 3]? = some (.int .i64 (eOff X.x e k)) := fun k hk => by
      unfold edgCells edgInts iv eOff
      simp only [List.map_cons, List.getElem?_cons_succ, List.map_append]
      rw [List.getElem?_append_left (by simp; omega), List.getElem?_map, List.getD_eq_getElem?_getD, List.getElem?_eq_getElem (by omega)]
      rfl
    have ht1 : (edgCells (edg X.x e))[1]? = some (.int .i64 (eTo X.x e : Int)) := by rw [← gto]; rfl
    have HOC := Lib.hid hoc
    have HT1 := Lib.hid ht1
    have HMC := Lib.hid (hmc (eTo X.x e) htl)
    have e0 : (0 : Int) ≤ (e : Int) := by omega
    have e1 : (e : Int) < (X.x.edges.length : Int) := by omega
    have t0 : (0 : Int) ≤ (eTo X.x e : Int) := by omega
    have t1 : (eTo X.x e : Int) < (X.x.modes.length : Int) := by omega
    have hwr : IntKind.i64.wrap ((d.now : Int) - (d.since : Int)) = ((d.now - d.since : Nat) : Int) := by rw [IntWalk.i64_in _ (by omega)]; omega
    have HB1 := Lib.hid b1
    have HK1 := Lib.hid K1
    have HNX := Lib.hid (opnK_next X d e)
    have HLT := Lib.hid (opnK_lt X d e)
    clear hp2 hp3 hed hR hX hmc hec b1 K1 h23 hoc ht1 htl hsm hst gto g
    generalize edgCells (edg X.x e) = ec at *
    go_enter Tryz.func28, Tryz.ntmps28
    go_wp2_with (first
      | rw [HW.out]
      | (refine wpList_load_agg rfl 82 (.tmp 29) rfl rfl (cs := ec) (by rw [HL23.out]; exact agg_edge) HEC.out ?_)
      | (refine stop_store 82 (.tmp 4) (.tmp 30) rfl ?_))
    constructor
    refine wpList_store_all rfl 82 (.tmp 4) (.tmp 30) rfl rfl rfl (vs := ec) (by rw [HL23.out]; exact agg_edge.2) (Blk.new _ _ _) HIO.out (by rw [HL23.out]; rfl) ?_
    intro w2 b2 k2
    have hsz1 : w.heap.size < W1.heap.size := HB1.out.lt
    have K2 : Keep [] W1 w2 := ((Keep.refl [] W1).alloc _).trans k2 (fun y hy hlt => by simp at hy; omega)
    have B2 := HB1.out.keep0 K2
    have d2 := (dc_cells B2).1.1
    rw [hMA] at d2
    have dt := b2.at_ HT1.out
    have dm := HMC.out w2 (HK1.out.then K2)
    have d9 := (dc_cells B2).2.1.2.2.2
    have d10 := (dc_cells B2).2.2.1
    have HB2 := Lib.hid b2
    have HK2 := Lib.hid K2
    have HBB := Lib.hid B2
    clear c2 c3 c6 c7 c8 c9 c10 cm k2 b2 K2 B2
    generalize hgb : W1.heap.size = gb at *
    go_wp2
    clear dt dm d9 d10 d2
    go_loopw [6, 7, 8] (fun v6 v7 v8 wr => ∃ k : Nat, k ≤ 16 ∧ v6 = .int .u32 (opnK X d e k : Int) ∧ v7 = .int .i64 (k : Int) ∧ Keep [] w2 wr) (fun _ v7 _ _ => 16 - (intOf v7).toNat)
    case atStart => exact ⟨0, by omega, rfl, rfl, Keep.refl _ _⟩
    case round =>
      obtain ⟨k, hk, rfl, rfl, hKr⟩ := hrel
      by_cases hlt : k < 16
      · have HKr := Lib.hid hKr
        have HADD := Lib.hid (opn_add hlt (HLT.out k))
        have hF0 : ∀ w', Keep [] wr w' → w'.cell? ⟨w.heap.size, 9, none⟩ = some (.int .i64 (d.now : Int)) ∧ w'.cell? ⟨w.heap.size, 10, none⟩ = some (.int .i64 (d.since : Int)) ∧ w'.cell? ⟨gb, 3 + k, none⟩ = some (.int .i64 (eOff X.x e k)) := fun w' kk => by
          have kk2 := HKr.out.then kk
          have hb := HBB.out.keep0 kk2
          refine ⟨(dc_cells hb).2.1.2.2.2, (dc_cells hb).2.2.1, ?_⟩
          rw [Nat.add_comm 3 k]
          exact (HB2.out.keep0 kk2).at_ (HOC.out k hlt)
        have q0 : (0 : Int) ≤ (k : Int) := by omega
        have q1 : (k : Int) < 16 := by omega
        have HF0 := Lib.hid hF0
        clear hKr hF0
        go_upto_region 13 with (go_at_call 46; refine (HH1 k _).out.mono ?_; rintro _ w4 ⟨rfl, rfl⟩)
        have hF : ∀ w', Keep [] wr w' → w'.cell? ⟨w.heap.size, 9, none⟩ = some (.int .i64 (d.now : Int)) ∧ w'.cell? ⟨w.heap.size, 10, none⟩ = some (.int .i64 (d.since : Int)) ∧ w'.cell? ⟨gb, 3 + k, none⟩ = some (.int .i64 (eOff X.x e k)) := HF0.out
        obtain ⟨c3, hc3⟩ : ∃ c3, decide (eOff X.x e k ≤ ((d.now - d.since : Nat) : Int)) = c3 := ⟨_, rfl⟩
        have HC3 : Hid (decide (eOff X.x e k ≤ ((d.now - d.since : Nat) : Int)) = c3) := hc3
        cases hc2 : has10 (setOf10 X.x (eTo X.x e : Int)) (k : Int) with
        | false =>
          clear hc3
          cases hc1 : has10 (setOf10 X.x (d.mode : Int)) (k : Int) with
          | false =>
            have HCC2 := Lib.hid hc2
            have HCC1 := Lib.hid hc1
            refine wp_region_flow (Keep [] wr) rfl (by kernel_rfl) (Keep.refl _ _).drew ?_
            (refine fl_val (v := ?_) (by rfl) ?_ ?_; rotate_left; (intro w' hS; obtain ⟨f1,f2,f3⟩ := hF w' hS; go_simp; with_reducible rfl); simp only [Act.put, List.setIfInBounds_toArray, List.set_cons_zero, List.set_cons_succ])
            (refine fl_val (v := ?_) (by rfl) ?_ ?_; rotate_left; (intro w' hS; obtain ⟨f1,f2,f3⟩ := hF w' hS; go_simp; with_reducible rfl); simp only [Act.put, List.setIfInBounds_toArray, List.set_cons_zero, List.set_cons_succ])
            refine fl_call (f := 46) (v := .bool false) (by rfl) rfl (by simp only [List.map_toArray, List.map_cons, List.map_nil]; rfl) Tryz.func46 (by kernel_rfl) (by kernel_rfl) (fun w' hS => ((HH2 k w').out.mono (fun e w'' h => ⟨by rw [h.1, hc2], h.2 ▸ hS⟩))) ?_; simp only [Act.put, List.setIfInBounds_toArray, List.set_cons_zero, List.set_cons_succ]
            (refine fl_val (v := ?_) (by rfl) ?_ ?_; rotate_left; (intro w' hS; obtain ⟨f1,f2,f3⟩ := hF w' hS; go_simp; with_reducible rfl); simp only [Act.put, List.setIfInBounds_toArray, List.set_cons_zero, List.set_cons_succ])
            iterate 13 (refine fl_off (by rfl) ?_; simp only [Act.put, List.setIfInBounds_toArray, List.set_cons_zero, List.set_cons_succ])
            (refine fl_val (v := ?_) (by rfl) ?_ ?_; rotate_left; (intro w' hS; obtain ⟨f1,f2,f3⟩ := hF w' hS; go_simp; with_reducible rfl); simp only [Act.put, List.setIfInBounds_toArray, List.set_cons_zero, List.set_cons_succ])
            refine fl_nil ?_
            intro w5 hS
            have K5 := HKr.out.then hS
            clear hF
            have HN : Hid (opnK X d e (k + 1) = opnK X d e k) := by show _ = _; rw [HNX.out k, HCC2.out, HCC1.out, HC3.out]; rfl
            go_wp2
            go_roundw
            case rel => exact ⟨k + 1, hlt, by rw [HN.out], by go_num, K5⟩
            case measure => simp [intOf] <;> omega
          | true =>
            have HCC2 := Lib.hid hc2
            have HCC1 := Lib.hid hc1
            refine wp_region_flow (Keep [] wr) rfl (by kernel_rfl) (Keep.refl _ _).drew ?_
            (refine fl_val (v := ?_) (by rfl) ?_ ?_; rotate_left; (intro w' hS; obtain ⟨f1,f2,f3⟩ := hF w' hS; go_simp; with_reducible rfl); simp only [Act.put, List.setIfInBounds_toArray, List.set_cons_zero, List.set_cons_succ])
            (refine fl_val (v := ?_) (by rfl) ?_ ?_; rotate_left; (intro w' hS; obtain ⟨f1,f2,f3⟩ := hF w' hS; go_simp; with_reducible rfl); simp only [Act.put, List.setIfInBounds_toArray, List.set_cons_zero, List.set_cons_succ])
            refine fl_call (f := 46) (v := .bool false) (by rfl) rfl (by simp only [List.map_toArray, List.map_cons, List.map_nil]; rfl) Tryz.func46 (by kernel_rfl) (by kernel_rfl) (fun w' hS => ((HH2 k w').out.mono (fun e w'' h => ⟨by rw [h.1, hc2], h.2 ▸ hS⟩))) ?_; simp only [Act.put, List.setIfInBounds_toArray, List.set_cons_zero, List.set_cons_succ]
            (refine fl_val (v := ?_) (by rfl) ?_ ?_; rotate_left; (intro w' hS; obtain ⟨f1,f2,f3⟩ := hF w' hS; go_simp; with_reducible rfl); simp only [Act.put, List.setIfInBounds_toArray, List.set_cons_zero, List.set_cons_succ])
            iterate 13 (refine fl_off (by rfl) ?_; simp only [Act.put, List.setIfInBounds_toArray, List.set_cons_zero, List.set_cons_succ])
            (refine fl_val (v := ?_) (by rfl) ?_ ?_; rotate_left; (intro w' hS; obtain ⟨f1,f2,f3⟩ := hF w' hS; go_simp; with_reducible rfl); simp only [Act.put, List.setIfInBounds_toArray, List.set_cons_zero, List.set_cons_succ])
            refine fl_nil ?_
            intro w5 hS
            have K5 := HKr.out.then hS
            clear hF
            have HN : Hid (opnK X d e (k + 1) = opnK X d e k) := by show _ = _; rw [HNX.out k, HCC2.out, HCC1.out, HC3.out]; rfl
            go_wp2
            go_roundw
            case rel => exact ⟨k + 1, hlt, by rw [HN.out], by go_num, K5⟩
            case measure => simp [intOf] <;> omega
        | true =>
          cases hc1 : has10 (setOf10 X.x (d.mode : Int)) (k : Int) with
          | true =>
            clear hc3
            have HCC2 := Lib.hid hc2
            have HCC1 := Lib.hid hc1
            refine wp_region_flow (Keep [] wr) rfl (by kernel_rfl) (Keep.refl _ _).drew ?_
            (refine fl_val (v := ?_) (by rfl) ?_ ?_; rotate_left; (intro w' hS; obtain ⟨f1,f2,f3⟩ := hF w' hS; go_simp; with_reducible rfl); simp only [Act.put, List.setIfInBounds_toArray, List.set_cons_zero, List.set_cons_succ])
            (refine fl_val (v := ?_) (by rfl) ?_ ?_; rotate_left; (intro w' hS; obtain ⟨f1,f2,f3⟩ := hF w' hS; go_simp; with_reducible rfl); simp only [Act.put, List.setIfInBounds_toArray, List.set_cons_zero, List.set_cons_succ])
            refine fl_call (f := 46) (v := .bool true) (by rfl) rfl (by simp only [List.map_toArray, List.map_cons, List.map_nil]; rfl) Tryz.func46 (by kernel_rfl) (by kernel_rfl) (fun w' hS => ((HH2 k w').out.mono (fun e w'' h => ⟨by rw [h.1, hc2], h.2 ▸ hS⟩))) ?_; simp only [Act.put, List.setIfInBounds_toArray, List.set_cons_zero, List.set_cons_succ]
            (refine fl_val (v := ?_) (by rfl) ?_ ?_; rotate_left; (intro w' hS; obtain ⟨f1,f2,f3⟩ := hF w' hS; go_simp; with_reducible rfl); simp only [Act.put, List.setIfInBounds_toArray, List.set_cons_zero, List.set_cons_succ])
            (refine fl_val (v := ?_) (by rfl) ?_ ?_; rotate_left; (intro w' hS; obtain ⟨f1,f2,f3⟩ := hF w' hS; go_simp; with_reducible rfl); simp only [Act.put, List.setIfInBounds_toArray, List.set_cons_zero, List.set_cons_succ])
            (refine fl_val (v := ?_) (by rfl) ?_ ?_; rotate_left; (intro w' hS; obtain ⟨f1,f2,f3⟩ := hF w' hS; go_simp; with_reducible rfl); simp only [Act.put, List.setIfInBounds_toArray, List.set_cons_zero, List.set_cons_succ])
            iterate 10 (refine fl_off (by rfl) ?_; simp only [Act.put, List.setIfInBounds_toArray, List.set_cons_zero, List.set_cons_succ])
            (refine fl_val (v := ?_) (by rfl) ?_ ?_; rotate_left; (intro w' hS; obtain ⟨f1,f2,f3⟩ := hF w' hS; go_simp; with_reducible rfl); simp only [Act.put, List.setIfInBounds_toArray, List.set_cons_zero, List.set_cons_succ])
            (refine fl_val (v := ?_) (by rfl) ?_ ?_; rotate_left; (intro w' hS; obtain ⟨f1,f2,f3⟩ := hF w' hS; go_simp; with_reducible rfl); simp only [Act.put, List.setIfInBounds_toArray, List.set_cons_zero, List.set_cons_succ])
            refine fl_nil ?_
            intro w5 hS
            have K5 := HKr.out.then hS
            clear hF
            have HN : Hid (opnK X d e (k + 1) = opnK X d e k + 2 ^ k) := by show _ = _; rw [HNX.out k, HCC2.out, HCC1.out, HC3.out]; rfl
            go_wp2
            go_roundw
            case rel => exact ⟨k + 1, hlt, by rw [HN.out, ← HADD.out], by go_num, K5⟩
            case measure => simp [intOf] <;> omega
          | false =>
            cases c3 with
            | false =>
              have HCC2 := Lib.hid hc2
              have HCC1 := Lib.hid hc1
              refine wp_region_flow (Keep [] wr) rfl (by kernel_rfl) (Keep.refl _ _).drew ?_
              (refine fl_val (v := ?_) (by rfl) ?_ ?_; rotate_left; (intro w' hS; obtain ⟨f1,f2,f3⟩ := hF w' hS; go_simp; with_reducible rfl); simp only [Act.put, List.setIfInBounds_toArray, List.set_cons_zero, List.set_cons_succ])
              (refine fl_val (v := ?_) (by rfl) ?_ ?_; rotate_left; (intro w' hS; obtain ⟨f1,f2,f3⟩ := hF w' hS; go_simp; with_reducible rfl); simp only [Act.put, List.setIfInBounds_toArray, List.set_cons_zero, List.set_cons_succ])
              refine fl_call (f := 46) (v := .bool true) (by rfl) rfl (by simp only [List.map_toArray, List.map_cons, List.map_nil]; rfl) Tryz.func46 (by kernel_rfl) (by kernel_rfl) (fun w' hS => ((HH2 k w').out.mono (fun e w'' h => ⟨by rw [h.1, hc2], h.2 ▸ hS⟩))) ?_; simp only [Act.put, List.setIfInBounds_toArray, List.set_cons_zero, List.set_cons_succ]
              (refine fl_val (v := ?_) (by rfl) ?_ ?_; rotate_left; (intro w' hS; obtain ⟨f1,f2,f3⟩ := hF w' hS; go_simp; with_reducible rfl); simp only [Act.put, List.setIfInBounds_toArray, List.set_cons_zero, List.set_cons_succ])
              (refine fl_val (v := ?_) (by rfl) ?_ ?_; rotate_left; (intro w' hS; obtain ⟨f1,f2,f3⟩ := hF w' hS; go_simp; with_reducible rfl); simp only [Act.put, List.setIfInBounds_toArray, List.set_cons_zero, List.set_cons_succ])
              (refine fl_val (v := ?_) (by rfl) ?_ ?_; rotate_left; (intro w' hS; obtain ⟨f1,f2,f3⟩ := hF w' hS; go_simp; with_reducible rfl); simp only [Act.put, List.setIfInBounds_toArray, List.set_cons_zero, List.set_cons_succ])
              (refine fl_val (v := ?_) (by rfl) ?_ ?_; rotate_left; (intro w' hS; obtain ⟨f1,f2,f3⟩ := hF w' hS; go_simp; with_reducible rfl); simp only [Act.put, List.setIfInBounds_toArray, List.set_cons_zero, List.set_cons_succ])
              (refine fl_val (v := ?_) (by rfl) ?_ ?_; rotate_left; (intro w' hS; obtain ⟨f1,f2,f3⟩ := hF w' hS; go_simp; with_reducible rfl); simp only [Act.put, List.setIfInBounds_toArray, List.set_cons_zero, List.set_cons_succ])
              (refine fl_val (v := ?_) (by rfl) ?_ ?_; rotate_left; (intro w' hS; obtain ⟨f1,f2,f3⟩ := hF w' hS; go_simp; with_reducible rfl); simp only [Act.put, List.setIfInBounds_toArray, List.set_cons_zero, List.set_cons_succ])
              (refine fl_val (v := ?_) (by rfl) ?_ ?_; rotate_left; (intro w' hS; obtain ⟨f1,f2,f3⟩ := hF w' hS; go_simp; with_reducible rfl); simp only [Act.put, List.setIfInBounds_toArray, List.set_cons_zero, List.set_cons_succ])
              (refine fl_val (v := ?_) (by rfl) ?_ ?_; rotate_left; (intro w' hS; obtain ⟨f1,f2,f3⟩ := hF w' hS; go_simp; with_reducible rfl); simp only [Act.put, List.setIfInBounds_toArray, List.set_cons_zero, List.set_cons_succ])
              (refine fl_val (v := ?_) (by rfl) ?_ ?_; rotate_left; (intro w' hS; obtain ⟨f1,f2,f3⟩ := hF w' hS; go_simp; with_reducible rfl); simp only [Act.put, List.setIfInBounds_toArray, List.set_cons_zero, List.set_cons_succ])
              (refine fl_val (v := ?_) (by rfl) ?_ ?_; rotate_left; (intro w' hS; obtain ⟨f1,f2,f3⟩ := hF w' hS; go_simp; with_reducible rfl); simp only [Act.put, List.setIfInBounds_toArray, List.set_cons_zero, List.set_cons_succ])
              (refine fl_val (v := ?_) (by rfl) ?_ ?_; rotate_left; (intro w' hS; obtain ⟨f1,f2,f3⟩ := hF w' hS; go_simp; with_reducible rfl); simp only [Act.put, List.setIfInBounds_toArray, List.set_cons_zero, List.set_cons_succ])
              (refine fl_val (v := ?_) (by rfl) ?_ ?_; rotate_left; (intro w' hS; obtain ⟨f1,f2,f3⟩ := hF w' hS; go_simp; with_reducible rfl); simp only [Act.put, List.setIfInBounds_toArray, List.set_cons_zero, List.set_cons_succ])
              (refine fl_val (v := ?_) (by rfl) ?_ ?_; rotate_left; (intro w' hS; obtain ⟨f1,f2,f3⟩ := hF w' hS; go_simp; with_reducible rfl); simp only [Act.put, List.setIfInBounds_toArray, List.set_cons_zero, List.set_cons_succ])
              (refine fl_val (v := ?_) (by rfl) ?_ ?_; rotate_left; (intro w' hS; obtain ⟨f1,f2,f3⟩ := hF w' hS; go_simp; with_reducible rfl); simp only [Act.put, List.setIfInBounds_toArray, List.set_cons_zero, List.set_cons_succ])
              (refine fl_val (v := ?_) (by rfl) ?_ ?_; rotate_left; (intro w' hS; obtain ⟨f1,f2,f3⟩ := hF w' hS; go_simp; with_reducible rfl); simp only [Act.put, List.setIfInBounds_toArray, List.set_cons_zero, List.set_cons_succ])
              refine fl_nil ?_
              intro w5 hS
              have K5 := HKr.out.then hS
              clear hF
              have HN : Hid (opnK X d e (k + 1) = opnK X d e k) := by show _ = _; rw [HNX.out k, HCC2.out, HCC1.out, HC3.out]; rfl
              go_wp2
              go_roundw
              case rel => exact ⟨k + 1, hlt, by rw [HN.out], by go_num, K5⟩
              case measure => simp [intOf] <;> omega
            | true =>
              have HCC2 := Lib.hid hc2
              have HCC1 := Lib.hid hc1
              refine wp_region_flow (Keep [] wr) rfl (by kernel_rfl) (Keep.refl _ _).drew ?_
              (refine fl_val (v := ?_) (by rfl) ?_ ?_; rotate_left; (intro w' hS; obtain ⟨f1,f2,f3⟩ := hF w' hS; go_simp; with_reducible rfl); simp only [Act.put, List.setIfInBounds_toArray, List.set_cons_zero, List.set_cons_succ])
              (refine fl_val (v := ?_) (by rfl) ?_ ?_; rotate_left; (intro w' hS; obtain ⟨f1,f2,f3⟩ := hF w' hS; go_simp; with_reducible rfl); simp only [Act.put, List.setIfInBounds_toArray, List.set_cons_zero, List.set_cons_succ])
              refine fl_call (f := 46) (v := .bool true) (by rfl) rfl (by simp only [List.map_toArray, List.map_cons, List.map_nil]; rfl) Tryz.func46 (by kernel_rfl) (by kernel_rfl) (fun w' hS => ((HH2 k w').out.mono (fun e w'' h => ⟨by rw [h.1, hc2], h.2 ▸ hS⟩))) ?_; simp only [Act.put, List.setIfInBounds_toArray, List.set_cons_zero, List.set_cons_succ]
              (refine fl_val (v := ?_) (by rfl) ?_ ?_; rotate_left; (intro w' hS; obtain ⟨f1,f2,f3⟩ := hF w' hS; go_simp; with_reducible rfl); simp only [Act.put, List.setIfInBounds_toArray, List.set_cons_zero, List.set_cons_succ])
              (refine fl_val (v := ?_) (by rfl) ?_ ?_; rotate_left; (intro w' hS; obtain ⟨f1,f2,f3⟩ := hF w' hS; go_simp; with_reducible rfl); simp only [Act.put, List.setIfInBounds_toArray, List.set_cons_zero, List.set_cons_succ])
              (refine fl_val (v := ?_) (by rfl) ?_ ?_; rotate_left; (intro w' hS; obtain ⟨f1,f2,f3⟩ := hF w' hS; go_simp; with_reducible rfl); simp only [Act.put, List.setIfInBounds_toArray, List.set_cons_zero, List.set_cons_succ])
              (refine fl_val (v := ?_) (by rfl) ?_ ?_; rotate_left; (intro w' hS; obtain ⟨f1,f2,f3⟩ := hF w' hS; go_simp; with_reducible rfl); simp only [Act.put, List.setIfInBounds_toArray, List.set_cons_zero, List.set_cons_succ])
              (refine fl_val (v := ?_) (by rfl) ?_ ?_; rotate_left; (intro w' hS; obtain ⟨f1,f2,f3⟩ := hF w' hS; go_simp; with_reducible rfl); simp only [Act.put, List.setIfInBounds_toArray, List.set_cons_zero, List.set_cons_succ])
              (refine fl_val (v := ?_) (by rfl) ?_ ?_; rotate_left; (intro w' hS; obtain ⟨f1,f2,f3⟩ := hF w' hS; go_simp; with_reducible rfl); simp only [Act.put, List.setIfInBounds_toArray, List.set_cons_zero, List.set_cons_succ])
              (refine fl_val (v := ?_) (by rfl) ?_ ?_; rotate_left; (intro w' hS; obtain ⟨f1,f2,f3⟩ := hF w' hS; go_simp; with_reducible rfl); simp only [Act.put, List.setIfInBounds_toArray, List.set_cons_zero, List.set_cons_succ])
              (refine fl_val (v := ?_) (by rfl) ?_ ?_; rotate_left; (intro w' hS; obtain ⟨f1,f2,f3⟩ := hF w' hS; go_simp; with_reducible rfl); simp only [Act.put, List.setIfInBounds_toArray, List.set_cons_zero, List.set_cons_succ])
              (refine fl_val (v := ?_) (by rfl) ?_ ?_; rotate_left; (intro w' hS; obtain ⟨f1,f2,f3⟩ := hF w' hS; go_simp; with_reducible rfl); simp only [Act.put, List.setIfInBounds_toArray, List.set_cons_zero, List.set_cons_succ])
              (refine fl_val (v := ?_) (by rfl) ?_ ?_; rotate_left; (intro w' hS; obtain ⟨f1,f2,f3⟩ := hF w' hS; go_simp; with_reducible rfl); simp only [Act.put, List.setIfInBounds_toArray, List.set_cons_zero, List.set_cons_succ])
              (refine fl_val (v := ?_) (by rfl) ?_ ?_; rotate_left; (intro w' hS; obtain ⟨f1,f2,f3⟩ := hF w' hS; go_simp; with_reducible rfl); simp only [Act.put, List.setIfInBounds_toArray, List.set_cons_zero, List.set_cons_succ])
              (refine fl_val (v := ?_) (by rfl) ?_ ?_; rotate_left; (intro w' hS; obtain ⟨f1,f2,f3⟩ := hF w' hS; go_simp; with_reducible rfl); simp only [Act.put, List.setIfInBounds_toArray, List.set_cons_zero, List.set_cons_succ])
              (refine fl_val (v := ?_) (by rfl) ?_ ?_; rotate_left; (intro w' hS; obtain ⟨f1,f2,f3⟩ := hF w' hS; go_simp; with_reducible rfl); simp only [Act.put, List.setIfInBounds_toArray, List.set_cons_zero, List.set_cons_succ])
              (refine fl_val (v := ?_) (by rfl) ?_ ?_; rotate_left; (intro w' hS; obtain ⟨f1,f2,f3⟩ := hF w' hS; go_simp; with_reducible rfl); simp only [Act.put, List.setIfInBounds_toArray, List.set_cons_zero, List.set_cons_succ])
              (refine fl_val (v := ?_) (by rfl) ?_ ?_; rotate_left; (intro w' hS; obtain ⟨f1,f2,f3⟩ := hF w' hS; go_simp; with_reducible rfl); simp only [Act.put, List.setIfInBounds_toArray, List.set_cons_zero, List.set_cons_succ])
              refine fl_nil ?_
              intro w5 hS
              have K5 := HKr.out.then hS
              clear hF
              have HN : Hid (opnK X d e (k + 1) = opnK X d e k + 2 ^ k) := by show _ = _; rw [HNX.out k, HCC2.out, HCC1.out, HC3.out]; rfl
              go_wp2
              go_roundw
              case rel => exact ⟨k + 1, hlt, by rw [HN.out, ← HADD.out], by go_num, K5⟩
              case measure => simp [intOf] <;> omega
      · obtain rfl : k = 16 := by omega
        clear HNX HLT
        go_wp2
        go_ret
        rw [HC.out]
        exact ⟨rfl, HK1.out.then (HK2.out.then hKr)⟩
  · have q2 : ¬ (d.ph : Int) = 2 := by omega
    have q3 : ¬ (d.ph : Int) = 3 := by omega
    have HC : Hid (openD X d = setOf10 X.x (d.mode : Int)) := by show _ = _; unfold openD; rw [if_neg hp2, if_neg hp3]
    clear hp2 hp3 b1 hR hX hmc
    go_enter Tryz.func28, Tryz.ntmps28
    go_wp2_with (rw [HW.out])
    go_ret
    rw [HC.out]
    exact ⟨rfl, K1⟩
set_option maxRecDepth 100000 in
set_option maxHeartbeats 4000000 in
theorem dact_any (g : ChG X) (hX : DcX w V X) {s : EnS} (hR : RelE X s d) :
    Calls Tryz.prog 30 #[.agg (dcL V X d).toArray] w fun e w' => e = .returned (.int .u32 (activeD X d : Int)) ∧ Keep [] w w' := by
  obtain ⟨W1, hW1⟩ : ∃ W1, w.alloc (.cells (dcL V X d).toArray 31) = W1 := ⟨_, rfl⟩
  have b1 : Blk W1 w.heap.size 31 (dcL V X d).toArray := by rw [← hW1]; exact Blk.new _ _ _
  have K1 : Keep [] w W1 := by rw [← hW1]; exact (Keep.refl _ w).alloc _
  have hml : d.mode < X.x.modes.length := by rw [← hR.mode]; exact hR.len
  obtain ⟨mb, mo, hMA, hmc⟩ := hX.mode (by omega)
  obtain ⟨⟨c2, _, _, _⟩, ⟨c6, _, c8, _⟩, _, _, _⟩ := dc_cells b1
  have HW := Lib.hid hW1
  have hlm := (hX.img w (Keep.refl _ _)).lm
  have hle := (hX.img w (Keep.refl _ _)).le
  unfold maxLen at hlm hle
  have cm := hmc d.mode hml W1 K1
  rw [hMA] at c2
  have m0 : (0 : Int) ≤ (d.mode : Int) := by omega
  have m1 : (d.mode : Int) < (X.x.modes.length : Int) := by omega
  clear hW1
  by_cases hp3 : d.ph = 3
  · replace c8 : W1.cell? ⟨w.heap.size, 8, none⟩ = some (.int .i64 3) := by rw [c8, hp3]; rfl
    obtain ⟨e, he, hed⟩ : ∃ e, e < X.x.edges.length ∧ d.edge = some e := tick_ph hR (by omega)
    obtain ⟨eb, eo, hEA, hec⟩ := hX.edge he
    have htl : eTo X.x e < X.x.modes.length := ft_len g he
    have hsm := g.s16 (d.mode : Int)
    have hst := g.s16 (eTo X.x e : Int)
    have HC : Hid (bits .or .u32 (setOf10 X.x (d.mode : Int) : Int) (setOf10 X.x (eTo X.x e : Int) : Int) = (activeD X d : Int)) := by
      show _ = _
      rw [u32_or_nat _ _ (by omega) (by omega)]
      unfold activeD
      rw [if_pos hp3, hed]
      rfl
    have gto := g.to he
    have hF : ∀ w', Keep [] W1 w' → w'.cell? ⟨w.heap.size, 2, none⟩ = some (.slice (some ⟨mb, mo, none⟩) X.x.modes.length V.v.mc) ∧ w'.cell? ⟨w.heap.size, 3, none⟩ = some (.slice (some ⟨eb, eo, none⟩) X.x.edges.length V.v.ec) ∧ w'.cell? ⟨w.heap.size, 7, none⟩ = some (.int .i64 (e : Int)) ∧ w'.cell? ⟨eb, eo + e * 23 + 1, none⟩ = some (.int .i64 (eTo X.x e : Int)) ∧ w'.cell? ⟨mb, mo + eTo X.x e * 2, none⟩ = some (.int .u32 (setOf10 X.x (eTo X.x e : Int) : Int)) := fun w' kk => by
      obtain ⟨⟨c2, c3, _, _⟩, ⟨_, c7, _, _⟩, _, _, _⟩ := dc_cells (b1.keep0 kk)
      refine ⟨by rw [c2, hMA], by rw [c3, hEA], by rw [c7, hed]; rfl, ?_, hmc _ htl w' (K1.then kk)⟩
      rw [← gto]; exact hec w' (K1.then kk) 1 _ rfl
    have e0 : (0 : Int) ≤ (e : Int) := by omega
    have e1 : (e : Int) < (X.x.edges.length : Int) := by omega
    have t0 : (0 : Int) ≤ (eTo X.x e : Int) := by omega
    have t1 : (eTo X.x e : Int) < (X.x.modes.length : Int) := by omega
    clear hp3 hed hR hX hmc hec htl hsm hst gto g b1
    go_enter Tryz.func30, Tryz.ntmps30
    go_upto_region 4 with (rw [HW.out])
    clear c2 c6 c8 cm
    refine wp_region_flow (Keep [] W1) rfl (by kernel_rfl) (Keep.refl _ _).drew ?_
    repeat (refine fl_val (v := ?_) (by rfl) ?_ ?_; rotate_left; (intro w' hS; obtain ⟨f1,f2,f3,f4,f5⟩ := hF w' hS; go_simp; with_reducible rfl); simp only [Act.put, List.setIfInBounds_toArray, List.set_cons_zero, List.set_cons_succ])
    refine fl_nil ?_
    intro w4 hS
    clear hF
    go_wp2
    go_ret
    exact ⟨congrArg (fun n => Ending.returned (.int .u32 n)) HC.out, K1.then hS⟩
  · have q3 : ¬ (d.ph : Int) = 3 := by omega
    have HC : Hid (activeD X d = setOf10 X.x (d.mode : Int)) := by show _ = _; unfold activeD; rw [if_neg hp3]
    clear hp3 b1 hR hX hmc
    go_enter Tryz.func30, Tryz.ntmps30
    go_wp2_with (rw [HW.out])
    go_ret
    rw [HC.out]
    exact ⟨rfl, K1⟩
end
def newDc : DcS := ⟨0, none, 0, 0, 0, 0, none⟩
theorem build_dE (v : ImgV) (x : Img) (la sa : Option Addr) (n m lc sc : Nat) (w : World) : (Instr.build 31 #[(0, .agg (imgCells v x).toArray), (1, .slice la n lc), (2, .slice sa m sc), (4, .int .i64 (-1)), (9, .int .i64 (-1))]).run Tryz.prog w =
    .ok (.agg #[.int .i64 x.res, .slice v.ta x.tasks.length v.tc, .slice v.ma x.modes.length v.mc, .slice v.ea x.edges.length v.ec, .slice la n lc, .slice sa m sc, .int .i64 0, .int .i64 (-1), .int .i64 0, .int .i64 0, .int .i64 0, .int .i64 0, .int .i64 (-1)]) w := by kernel_rfl
set_option maxRecDepth 100000 in
theorem dnew_any (V : DcV) (X : ChX) (w : World) :
    Calls Tryz.prog 16 #[.agg (imgCells V.v X.x).toArray, .slice V.la X.lat.length V.lc, .slice V.sa X.stl.length V.sc] w fun e w' => e = .returned (.agg (dcL V X newDc).toArray) ∧ Keep [] w w' := by
  obtain ⟨W1, hW1⟩ : ∃ W1, (w.alloc (.cells (imgCells V.v X.x).toArray 26)).alloc (.cells #[.int .i64 0, .slice none 0 0, .slice none 0 0, .slice none 0 0, .slice none 0 0, .slice none 0 0, .int .i64 0, .int .i64 0, .int .i64 0, .int .i64 0, .int .i64 0, .int .i64 0, .int .i64 0] 31) = W1 := ⟨_, rfl⟩
  have b0 : Blk W1 w.heap.size 26 (imgCells V.v X.x).toArray := by rw [← hW1]; exact (img_box w V.v X.x).alloc _
  have b1 : Blk W1 (w.heap.size + 1) 31 zE30.toArray := by rw [← hW1]; exact Blk.new1 _ _ _ _
  have K1 : Keep [] w W1 := by rw [← hW1]; exact ((Keep.refl _ w).alloc _).alloc _
  have HW := Lib.hid hW1
  have HB := Lib.hid (fun W => build_dE V.v X.x V.la V.sa X.lat.length X.stl.length V.lc V.sc W)
  have HCI := Lib.hid b0.cellsAt
  have HIL : Hid ((imgCells V.v X.x).length = 4) := show _ = _ from rfl
  have HK1 := Lib.hid K1
  clear hW1 b0 K1
  generalize imgCells V.v X.x = il at *
  have hbd := HB.out
  go_enter Tryz.func16, Tryz.ntmps16
  go_wp2_with (first
    | rw [HW.out]
    | (refine wpList_load_agg rfl 26 (.tmp 3) rfl rfl (cs := il) (by rw [HIL.out]; exact agg_image) HCI.out ?_)
    | (refine stop_at 10 rfl ?_))
  constructor
  refine wpList_runsC rfl (v := .agg (dcL V X newDc).toArray) (w' := W1) (by
    simp only [execOp, Sem.run_bind, List.map_toArray, List.map_cons, List.map_nil]
    change Result.andThen ((Instr.build 31 #[(0, .agg il.toArray), (1, .slice V.la X.lat.length V.lc), (2, .slice V.sa X.stl.length V.sc), (4, .int .i64 (-1)), (9, .int .i64 (-1))]).run Tryz.prog W1) _ = _
    rw [hbd]; rfl) ?_
  refine wpList_store_all rfl 31 (.tmp 6) (.tmp 10) rfl rfl rfl (vs := dcL V X newDc) agg_E30.2 b1 (dcL_one _ _ _) rfl ?_
  intro w2 d2 k2
  go_wp2
  refine bodyPost_ret (results_blk rfl _ rfl d2 agg_E30) rfl ?_
  exact ⟨rfl, HK1.out.trans k2 (fun y hy hlt => by simp at hy; omega)⟩
end Go.Proofs.YteflgdnekflbbaaGreatDoor
