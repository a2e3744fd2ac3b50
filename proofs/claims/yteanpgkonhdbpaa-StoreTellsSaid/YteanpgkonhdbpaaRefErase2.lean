/- ref06.Erase, walked. ref06.Erase where it erases, walked. -/
import Derived.Test.YteanpgkonhdbpaaRefProg
import Derived.StillTailTactics
namespace Go.Proofs.Yteanpgkonhdbpaa
open Go.RowKit

theorem refV_erD (d d2 : Dev) (t : Bool) (σ k : Nat) (A1 A2 : Option Addr) (c1 c2 : Nat) (h : d2.bits = d.bits) : refV (erD d d2 t σ k) A1 A2 c1 c2 = refV d2 A1 A2 c1 c2 := by
  unfold refV
  rw [(erD_bits d d2 t σ k).1, ← h]
  rfl
theorem refV_wornD (d : Dev) (σ : Nat) (A1 A2 : Option Addr) (c1 c2 : Nat) : refV (wornD d σ) A1 A2 c1 c2 = refV d A1 A2 c1 c2 := by
  simp [refV, wornD]
theorem ROwn.form2 {base : Nat} {F : List Nat} {w : World} {A1 A2 : Option Addr} {c1 c2 : Nat} {d : Dev} (h : ROwn base F w A1 A2 c1 c2 d) (hn : 0 < d.worn.length) : ∃ q, A2 = some ⟨q, 0, none⟩ ∧ base ≤ q ∧ q < w.heap.size ∧ q ∉ F := by
  obtain ⟨q, cap, hv, hb, hlt⟩ := h.worn.form hn
  injection hv with e1
  subst e1
  exact ⟨q, rfl, hb, hlt, h.off2 q rfl⟩

section
variable (base : Nat) (F : List Nat) (A1 A2 : Option Addr) (c1 c2 : Nat) (d : Dev) (s : Int) (w : World) (hr : ROwn base F w A1 A2 c1 c2 d) (ho : d.Ok) (hF : ∀ x ∈ F, x < w.heap.size) (hbase : base ≤ w.heap.size)
include hr ho

set_option maxRecDepth 100000 in
set_option maxHeartbeats 1000000 in
theorem rerase_no (h : d.on = false ∨ ¬ (0 ≤ s ∧ s < d.ns) ∨ d.lim ≤ d.worn.getD s.toNat 0) :
    Calls Try.prog 120 #[.agg (refV d A1 A2 c1 c2).toArray, .int .i64 s] w (RetRef base F w (eraseS d s).1 (eraseS d s).2) := by
  obtain ⟨b0, b1, k1, hsz⟩ := box2_facts w (refV d A1 A2 c1 c2)
  have HW : Hid ((w.alloc (.cells (refV d A1 A2 c1 c2).toArray 57)).alloc (.cells zeroD 57) = box2 w (refV d A1 A2 c1 c2)) := show _ = _ from rfl
  generalize box2 w (refV d A1 A2 c1 c2) = W at *
  have HA : Hid (AggOf Try.prog 57 10) := agg_ref
  have c5 := b0.cell 5
  have c0 := b0.cell 0
  have c2' := b0.cell 2
  have c4 := b0.cell 4
  obtain ⟨h0', _, h2', _, h4', h5', _⟩ := ref_cells d A1 A2 c1 c2
  rw [h5'] at c5
  rw [h0'] at c0
  rw [h2'] at c2'
  rw [h4'] at c4
  have HR : Hid (eraseS d s = if d.on = false then (d, 63) else if ¬ (0 ≤ s ∧ s < d.ns) then (d, 60) else if d.lim ≤ d.worn.getD s.toNat 0 then (d, 62) else
    ({ (goesS { d with worn := d.worn.set s.toNat (d.worn.getD s.toNat 0 + 1) }).1 with bits := eraseBits (goesS { d with worn := d.worn.set s.toNat (d.worn.getD s.toNat 0 + 1) }).2 d.seed d.bits (s.toNat * d.nw) d.nw }, if (goesS { d with worn := d.worn.set s.toNat (d.worn.getD s.toNat 0 + 1) }).2 then 63 else 0)) := show _ = _ from rfl
  have B0 := Lib.hid b0
  have B1 := Lib.hid b1
  have hlt0 : w.heap.size < W.heap.size := by omega
  have HRW := Lib.hid hr
  have hns := ho.ns2
  have hlim := ho.lim2
  have hwl := ho.wlen
  clear b0 b1 h5' h0' h2' h4' hsz
  cases hon : d.on
  · have HR2 : Hid (eraseS d s = (d, 63)) := by show _ = _; rw [HR.out, if_pos hon]
    rw [hon] at c5
    rw [HR2.out]
    clear HR hon h hr ho hwl
    go_enter Try.func120, Try.ntmps120
    go_wp2_with (first
      | rw [HW.out]
      | (refine wpList_load_agg rfl 57 (.tmp 2) rfl rfl (cs := refV d A1 A2 c1 c2) HA.out ?_ ?_; exact B0.out.cellsAt)
      | (refine wpList_store_all rfl 57 (.tmp 4) (.tmp 12) rfl rfl rfl (t := 57) (cs := zeroD) (vs := refV d A1 A2 c1 c2) HA.out.2 ?_ (refV_one _ _ _ _ _) rfl ?_; exact B1.out; intro w2 d1 k2))
    have kf := k1.trans k2 (by simp)
    exact bodyPost_ret (results_blk_tmp rfl _ rfl rfl d1 HA.out) rfl ⟨A1, A2, c1, _, rfl, HRW.out.keep0 kf, kf⟩
  · rw [hon] at c5
    have hcase : s < 0 ∨ (0 ≤ s ∧ (d.ns : Int) ≤ s) ∨ (0 ≤ s ∧ s < d.ns) := by omega
    rcases hcase with e1 | ⟨e1, e2⟩ | ⟨e1, e2⟩
    case' inl | inr.inl =>
      have HR2 : Hid (eraseS d s = (d, 60)) := by show _ = _; rw [HR.out, if_neg (by simp [hon]), if_pos (by omega)]
      rw [HR2.out]
      clear HR hon h hr ho hwl
      go_enter Try.func120, Try.ntmps120
      go_wp2_with (first
        | rw [HW.out]
        | (refine wpList_load_agg rfl 57 (.tmp 2) rfl rfl (cs := refV d A1 A2 c1 c2) HA.out ?_ ?_; exact B0.out.cellsAt)
        | (refine wpList_store_all rfl 57 (.tmp 4) (.tmp 21) rfl rfl rfl (t := 57) (cs := zeroD) (vs := refV d A1 A2 c1 c2) HA.out.2 ?_ (refV_one _ _ _ _ _) rfl ?_; exact B1.out; intro w2 d1 k2))
      have kf := k1.trans k2 (by simp)
      exact bodyPost_ret (results_blk_tmp rfl _ rfl rfl d1 HA.out) rfl ⟨A1, A2, c1, _, rfl, HRW.out.keep0 kf, kf⟩
    · obtain ⟨σ, rfl⟩ : ∃ σ : Nat, s = (σ : Int) := ⟨s.toNat, by omega⟩
      have hle : d.lim ≤ d.worn.getD σ 0 := by
        rcases h with h | h | h
        · rw [hon] at h; cases h
        · omega
        · exact h
      have HR2 : Hid (eraseS d σ = (d, 62)) := by show _ = _; rw [HR.out, if_neg (by simp [hon]), if_neg (by omega)]; exact if_pos hle
      rw [HR2.out]
      obtain ⟨b, o, rfl, hb, hcell⟩ := (hr.keep0 k1).at_.wear (i := σ) (by omega)
      have hle2 : (d.lim : Int) ≤ ((d.worn.getD σ 0 : Nat) : Int) := by omega
      have hl0 : (0 : Int) ≤ (σ : Int) := by omega
      have hl1 : (σ : Int) < (d.worn.length : Int) := by omega
      clear HR hon h hr ho hle
      generalize d.worn.getD σ 0 = x at *
      go_enter Try.func120, Try.ntmps120
      go_wp2_with (rw [HW.out])
      go_quiet (fail)
      have F0 := Lib.hid (B0.out.drewN nq)
      have F1 := Lib.hid (B1.out.drewN nq)
      have G1 := Lib.hid (k1.drewN nq)
      go_wp2_with (first
        | (refine wpList_load_agg rfl 57 (.tmp 2) rfl rfl (cs := refV d A1 (some ⟨b, o, none⟩) c1 c2) HA.out ?_ ?_; exact F0.out.cellsAt)
        | (refine wpList_store_all rfl 57 (.tmp 4) (.tmp 30) rfl rfl rfl (t := 57) (cs := zeroD) (vs := refV d A1 (some ⟨b, o, none⟩) c1 c2) HA.out.2 ?_ (refV_one _ _ _ _ _) rfl ?_; exact F1.out; intro w2 d1 k2))
      have kf := G1.out.trans k2 (by simp)
      exact bodyPost_ret (results_blk_tmp rfl _ rfl rfl d1 HA.out) rfl ⟨A1, _, c1, c2, rfl, HRW.out.keep0 kf, kf⟩
end
end Go.Proofs.Yteanpgkonhdbpaa

namespace Go.Proofs.Yteanpgkonhdbpaa
open Go.RowKit

theorem still_same {P : Program} {f : FuncId} {args : Array Value} {w : World} {v : Value} (h : Calls P f args w fun e w' => e = .returned v ∧ w = w') : Calls P f args w fun e w'' => e = .returned v ∧ w'' = w :=
  h.mono fun _ _ ⟨he, hm⟩ => ⟨he, hm.symm⟩

section
variable (base : Nat) (F : List Nat) (A1 A2 : Option Addr) (c1 c2 : Nat) (d : Dev) (σ : Nat) (w : World) (hr : ROwn base F w A1 A2 c1 c2 d) (ho : d.Ok) (hF : ∀ x ∈ F, x < w.heap.size) (hbase : base ≤ w.heap.size)
include hr ho hF hbase

set_option maxRecDepth 100000 in
set_option maxHeartbeats 2000000 in
theorem rerase_yes (hon : d.on = true) (h2 : σ < d.ns) (h3 : d.worn.getD σ 0 < d.lim) :
    Calls Try.prog 120 #[.agg (refV d A1 A2 c1 c2).toArray, .int .i64 (σ : Int)] w (RetRef base F w (eraseS d σ).1 (eraseS d σ).2) := by
  have HE := Lib.hid (eraseS_yes d σ hon h2 h3)
  rw [HE.out]
  clear HE
  obtain ⟨b0, b1, k1, hsz⟩ := box2_facts w (refV d A1 A2 c1 c2)
  have HW : Hid ((w.alloc (.cells (refV d A1 A2 c1 c2).toArray 57)).alloc (.cells zeroD 57) = box2 w (refV d A1 A2 c1 c2)) := show _ = _ from rfl
  generalize box2 w (refV d A1 A2 c1 c2) = W at *
  have HA : Hid (AggOf Try.prog 57 10) := agg_ref
  have c5 := b0.cell 5
  have c0 := b0.cell 0
  have c2' := b0.cell 2
  have c4 := b0.cell 4
  obtain ⟨h0', _, h2', _, h4', h5', _⟩ := ref_cells d A1 A2 c1 c2
  rw [h5', hon] at c5
  rw [h0'] at c0
  rw [h2'] at c2'
  rw [h4'] at c4
  have B0 := Lib.hid b0
  have B1 := Lib.hid b1
  have hlt0 : w.heap.size < W.heap.size := by omega
  have hlt1 : w.heap.size + 1 < W.heap.size := by omega
  have HRW := Lib.hid hr
  have HO := Lib.hid ho
  have hns := ho.ns2
  have hnw := ho.nw2
  have hnw1 := ho.nw1
  have hlim := ho.lim2
  have hwl := ho.wlen
  have hbits := bits_le d ho
  obtain ⟨b, o, rfl, hb, hcell⟩ := (hr.keep0 k1).at_.wear (i := σ) (by omega)
  have hle2 : ((d.worn.getD σ 0 : Nat) : Int) < (d.lim : Int) := by omega
  have hl0 : (0 : Int) ≤ (σ : Int) := by omega
  have hl1 : (σ : Int) < (d.worn.length : Int) := by omega
  have hlo := sect_hi d ho σ h2
  have HSD := Lib.hid ho.seed2
  have HCP := fun W (h : RefAt W A1 (some ⟨b, o, none⟩) d) => Lib.hid (rcopy_any A1 (some ⟨b, o, none⟩) c1 c2 d W h (by omega) (by omega))
  have HGO := fun A1 A2 c1 c2 W => Lib.hid (rgoes_any A1 A2 c1 c2 (wornD d σ) W ho.left2)
  obtain ⟨eb, ew, es, en, ewn, el, _⟩ := goes_same (wornD d σ)
  have EB : Hid ((goesS (wornD d σ)).1.bits = d.bits) := eb
  have EW : Hid ((goesS (wornD d σ)).1.worn = (wornD d σ).worn) := ew
  have ES : Hid ((goesS (wornD d σ)).1.seed = d.seed) := es
  have EN : Hid ((goesS (wornD d σ)).1.nw = d.nw) := ewn
  clear b0 b1 h5' h0' h2' h4' hsz hr ho hon h3 eb ew es en ewn el
  change Calls _ _ _ _ (RetRef base F w (erD d (goesS (wornD d σ)).1 (goesS (wornD d σ)).2 σ d.nw) (erE (goesS (wornD d σ)).2))
  generalize (goesS (wornD d σ)).2 = tt at *
  generalize (goesS (wornD d σ)).1 = d2 at *
  generalize hx : d.worn.getD σ 0 = x at *
  have HX := Lib.hid hx
  clear hx
  go_enter Try.func120, Try.ntmps120
  go_wp2_with (rw [HW.out])
  go_quiet (fail)
  have F0 := B0.out.drewN nq
  have F1 := B1.out.drewN nq
  have G1 := k1.drewN nq
  have h2z : (W.drewN nq).heap.size = W.heap.size := by simp [World.drewN]
  clear B0 B1 k1 c0 c2' c4 c5 hcell
  generalize W.drewN nq = W2 at *
  have H0 := Lib.hid F0
  have H1 := Lib.hid F1
  have K2 := Lib.hid G1
  have H2Z := Lib.hid h2z
  clear F0 F1 G1 h2z
  go_wp2_with (refine wpList_load_agg rfl 57 (.tmp 2) rfl rfl (cs := refV d A1 (some ⟨b, o, none⟩) c1 c2) HA.out ?_ ?_; exact H0.out.cellsAt)
  refine ((HCP _ (HRW.out.keep0 K2.out).at_).out).mono ?_
  rintro e W3 ⟨A1', A2', c1', c2', rfl, hro, k3⟩
  have hsz2 : W.heap.size ≤ W2.heap.size := by have := H2Z.out; omega
  have J0 := Lib.hid (H0.out.keep0 k3)
  have J1 := Lib.hid (H1.out.keep0 k3)
  have K3 := Lib.hid (K2.out.then k3)
  have hro2 : ROwn W2.heap.size [] W3 A1' A2' c1' c2' d := ⟨hro.bits, hro.worn, by simp, by simp⟩
  obtain ⟨q, rfl, hqb, _, _⟩ := hro2.form (by omega)
  obtain ⟨q2, rfl, hqb2, _, _⟩ := hro2.form2 (by omega)
  have hqq : q2 ≠ q := hro2.wne (by omega) q2 rfl
  have HRO := Lib.hid hro
  clear hro hro2 k3 HCP HRW H0 H1 K2
  go_wp2_with (refine stop_store 57 (.tmp 2) (.tmp 32) rfl ?_)
  constructor
  refine wpList_store_all rfl 57 (.tmp 2) (.tmp 32) rfl rfl rfl (t := 57) (cs := (refV d A1 (some ⟨b, o, none⟩) c1 c2).toArray) (vs := refV d (some ⟨q, 0, none⟩) (some ⟨q2, 0, none⟩) c1' c2') HA.out.2 J0.out (refV_one _ _ _ _ _) rfl ?_
  intro W4 d4 k4
  have hc4 := d4.cell 4
  rw [(ref_cells d (some ⟨q, 0, none⟩) (some ⟨q2, 0, none⟩) c1' c2').2.2.2.2.1] at hc4
  have nw0 : w.heap.size < q := by omega
  have nw1 : w.heap.size + 1 < q := by omega
  have nw2 : w.heap.size < q2 := by omega
  have nw3 : w.heap.size + 1 < q2 := by omega
  have o4 : RefOwn W2.heap.size W4 (some ⟨q, 0, none⟩) (some ⟨q2, 0, none⟩) c1' c2' d := ⟨own_keep HRO.out.bits k4 (fun y hy hm => by simp [Value.ownBlock] at hy hm; omega), own_keep HRO.out.worn k4 (fun y hy hm => by simp [Value.ownBlock] at hy hm; omega)⟩
  have cw := o4.worn.cellAt σ (by omega)
  have fw := o4.worn.frozenAt σ
  rw [List.getElem?_map, List.getElem?_eq_getElem (by omega), Option.map_some] at cw
  have hx2 : d.worn[σ]'(by omega) = x := by rw [← HX.out]; simp [show σ < d.worn.length by omega]
  rw [hx2] at cw
  have D4 := Lib.hid d4
  have K4 := Lib.hid k4
  have O4 := Lib.hid o4
  clear d4 k4 o4 hx2 J0 HRO
  go_wp2_with (refine stop_load 57 (.tmp 2) rfl ?_)
  have o5 : RefOwn W2.heap.size (W4.setCell ⟨q2, σ, none⟩ (.int .i64 ((x : Int) + 1))) (some ⟨q, 0, none⟩) (some ⟨q2, 0, none⟩) c1' c2' (wornD d σ) := by
    refine ⟨own_keep O4.out.bits (keep_set W4 q2 σ _) (fun y hy hm => by simp [Value.ownBlock] at hy hm; omega), ?_⟩
    have := (O4.out.worn.stored σ (.int .i64 ((x : Int) + 1))).1
    have e : (natsV d.worn).set σ (.int .i64 ((x : Int) + 1)) = natsV (wornD d σ).worn := by
      show _ = natsV (d.worn.set σ (d.worn.getD σ 0 + 1))
      rw [HX.out]
      simp [natsV, List.map_set]
    rw [e] at this
    have e2 : (wornD d σ).worn.length = d.worn.length := by simp [wornD]
    rw [e2]
    exact this
  have D5 : Blk (W4.setCell ⟨q2, σ, none⟩ (.int .i64 ((x : Int) + 1))) w.heap.size 57 (refV (wornD d σ) (some ⟨q, 0, none⟩) (some ⟨q2, 0, none⟩) c1' c2').toArray := by rw [refV_wornD]; exact D4.out.far (p := ⟨q2, σ, none⟩) (by show _ ≠ q2; omega) _
  have E5 : Blk (W4.setCell ⟨q2, σ, none⟩ (.int .i64 ((x : Int) + 1))) (w.heap.size + 1) 57 zeroD := (J1.out.keep K4.out (by simp)).far (p := ⟨q2, σ, none⟩) (by show _ ≠ q2; omega) _
  have K5 : Keep [] w (W4.setCell ⟨q2, σ, none⟩ (.int .i64 ((x : Int) + 1))) := (K3.out.trans K4.out (by simp)).setCell (by simp; omega) _
  clear hc4 cw fw D4 K4 O4 J1 K3
  generalize W4.setCell ⟨q2, σ, none⟩ (.int .i64 ((x : Int) + 1)) = W5 at *
  constructor
  refine wpList_load_agg rfl 57 (.tmp 2) rfl rfl (cs := refV (wornD d σ) (some ⟨q, 0, none⟩) (some ⟨q2, 0, none⟩) c1' c2') HA.out D5.cellsAt ?_
  have DD := Lib.hid D5
  have EE := Lib.hid E5
  have KK := Lib.hid K5
  have OO := Lib.hid o5
  clear D5 E5 K5 o5
  go_wp2_with fail
  refine (HGO (some ⟨q, 0, none⟩) (some ⟨q2, 0, none⟩) c1' c2' _).out.mono ?_
  rintro e W6 ⟨rfl, k6⟩
  have D6 := Lib.hid (DD.out.keep0 k6)
  have E6 := Lib.hid (EE.out.keep0 k6)
  have K6 := Lib.hid (KK.out.then k6)
  have o6 : RefOwn W2.heap.size W6 (some ⟨q, 0, none⟩) (some ⟨q2, 0, none⟩) c1' c2' d2 := ⟨by rw [EB.out]; exact own_keep0 OO.out.bits k6, by rw [EW.out]; exact own_keep0 OO.out.worn k6⟩
  have O6 := Lib.hid o6
  clear k6 o6 DD EE KK OO HGO
  go_wp2_with (refine stop_store 57 (.tmp 2) (.tmp 43) rfl ?_)
  constructor
  refine wpList_store_all rfl 57 (.tmp 2) (.tmp 43) rfl rfl rfl (t := 57) (cs := (refV (wornD d σ) (some ⟨q, 0, none⟩) (some ⟨q2, 0, none⟩) c1' c2').toArray) (vs := refV d2 (some ⟨q, 0, none⟩) (some ⟨q2, 0, none⟩) c1' c2') HA.out.2 D6.out (refV_one _ _ _ _ _) rfl ?_
  intro W7 d7 k7
  have e7 := E6.out.keep k7 (by simp)
  have kk7 := K6.out.trans k7 (by simp)
  have o7 : RefOwn W2.heap.size W7 (some ⟨q, 0, none⟩) (some ⟨q2, 0, none⟩) c1' c2' d2 := ⟨own_keep O6.out.bits k7 (fun y hy hm => by simp [Value.ownBlock] at hy hm; omega), own_keep O6.out.worn k7 (fun y hy hm => by simp [Value.ownBlock] at hy hm; omega)⟩
  have r7 : ROwn base F W7 (some ⟨q, 0, none⟩) (some ⟨q2, 0, none⟩) c1' c2' (erD d d2 tt σ 0) := by
    rw [erD_zero _ _ _ _ EB.out]
    exact ROwn.of_own (w0 := W2) o7 (fun x hx => by have := hF x hx; omega) (by omega)
  have c1q := d7.cell 1
  have c8q := d7.cell 8
  rw [(ref_cells d2 (some ⟨q, 0, none⟩) (some ⟨q2, 0, none⟩) c1' c2').2.1, EN.out] at c1q
  rw [(ref_cells d2 (some ⟨q, 0, none⟩) (some ⟨q2, 0, none⟩) c1' c2').2.2.2.2.2.2.2.2.1, ES.out] at c8q
  have HD7 := Lib.hid d7
  have HE7 := Lib.hid e7
  have HK7 := Lib.hid kk7
  have HR7 := Lib.hid r7
  clear d7 e7 kk7 r7 o7 k7 D6 E6 K6 O6
  have hm1 : (σ : Int) * (d.nw : Int) = ((σ * d.nw : Nat) : Int) := by rw [Int.natCast_mul]
  have HM1 := Lib.hid hm1
  clear hm1
  have hl0' : (0 : Int) ≤ (σ : Int) * (d.nw : Int) := by rw [HM1.out]; omega
  have hl1' : (σ : Int) * (d.nw : Int) ≤ 65536 := by rw [HM1.out]; omega
  have HLen : Hid (d2.bits.length = d.bits.length) := by show _ = _; rw [EB.out]
  cases tt
  · go_wp2_with fail
    clear c1q c8q
    go_loopw [8] (fun vi wr => ∃ k : Nat, k ≤ d.nw ∧ vi = .int .i64 k ∧ Blk wr w.heap.size 57 (refV d2 (some ⟨q, 0, none⟩) (some ⟨q2, 0, none⟩) c1' c2').toArray ∧ Blk wr (w.heap.size + 1) 57 zeroD ∧ ROwn base F wr (some ⟨q, 0, none⟩) (some ⟨q2, 0, none⟩) c1' c2' (erD d d2 false σ k) ∧ Keep [] w wr) (fun vi _ => d.nw - (intOf vi).toNat)
    case atStart => exact ⟨0, Nat.zero_le _, rfl, HD7.out, HE7.out, HR7.out, HK7.out⟩
    case round =>
      obtain ⟨k, hk, rfl, e0, e1, ro, kr⟩ := hrel
      have p1 := e0.cell 1
      have p3 := e0.cell 3
      rw [(ref_cells d2 (some ⟨q, 0, none⟩) (some ⟨q2, 0, none⟩) c1' c2').2.1, EN.out] at p1
      rw [(ref_cells d2 (some ⟨q, 0, none⟩) (some ⟨q2, 0, none⟩) c1' c2').2.2.2.1, HLen.out] at p3
      by_cases hlt : k < d.nw
      · have HS : Hid (ROwn base F (wr.setCell ⟨q, σ * d.nw + k, none⟩ (.int .u32 4294967295)) (some ⟨q, 0, none⟩) (some ⟨q2, 0, none⟩) c1' c2' (erD d d2 false σ (k + 1))) := by
          show ROwn _ _ _ _ _ _ _ _
          rw [erD_succ]
          have e : (erD d d2 false σ k).bits.length = d.bits.length := (erD_bits d d2 false σ k).1
          have := ro.setBit (σ * d.nw + k) 4294967295 (ro.wne (by omega))
          simpa using this
        obtain ⟨hl, hv⟩ := erD_bits d d2 false σ k
        have hb1 := ro.bits.cellAt (σ * d.nw + k) (by omega)
        have hb2 := ro.bits.frozenAt (σ * d.nw + k)
        rw [List.getElem?_map, List.getElem?_eq_getElem (by omega), Option.map_some] at hb1
        have hv2 : (erD d d2 false σ k).bits[σ * d.nw + k]'(by omega) = d.bits.getD (σ * d.nw + k) 0 := by rw [← hv]; simp [show σ * d.nw + k < (erD d d2 false σ k).bits.length by omega]
        rw [hv2] at hb1
        have he : (σ : Int) * (d.nw : Int) + (k : Int) = ((σ * d.nw + k : Nat) : Int) := by rw [HM1.out, Int.natCast_add]
        have hk0 : (0 : Int) ≤ ((σ * d.nw + k : Nat) : Int) := by omega
        have hk1 : ((σ * d.nw + k : Nat) : Int) < (d.bits.length : Int) := by omega
        have G0 := Lib.hid (e0.far (p := ⟨q, σ * d.nw + k, none⟩) (by show _ ≠ q; omega) (.int .u32 4294967295))
        have G1 := Lib.hid (e1.far (p := ⟨q, σ * d.nw + k, none⟩) (by show _ ≠ q; omega) (.int .u32 4294967295))
        have GK := Lib.hid (kr.setCell (p := ⟨q, σ * d.nw + k, none⟩) (by show q < _ → _; intro h; omega) (.int .u32 4294967295))
        clear ro e0 e1 kr hl hv hv2
        generalize d.bits.getD (σ * d.nw + k) 0 = y at *
        generalize σ * d.nw + k = at_ at *
        go_wp2_with fail
        go_roundw
        case rel => exact ⟨k + 1, by omega, by go_num, G0.out, G1.out, HS.out, GK.out⟩
        case measure => simp [intOf] <;> omega
      · have HRR : Hid (ROwn base F wr (some ⟨q, 0, none⟩) (some ⟨q2, 0, none⟩) c1' c2' (erD d d2 false σ d.nw)) := by
          obtain rfl : k = d.nw := by omega
          exact ro
        have L7 : Hid (refV (erD d d2 false σ d.nw) (some ⟨q, 0, none⟩) (some ⟨q2, 0, none⟩) c1' c2' = refV d2 (some ⟨q, 0, none⟩) (some ⟨q2, 0, none⟩) c1' c2') := refV_erD _ _ _ _ _ _ _ _ _ EB.out
        have E0 := Lib.hid e0
        have E1 := Lib.hid e1
        have HKR := Lib.hid kr
        clear ro e0 e1 kr p3
        go_wp2_with (first
          | (refine wpList_load_agg rfl 57 (.tmp 2) rfl rfl (cs := refV d2 (some ⟨q, 0, none⟩) (some ⟨q2, 0, none⟩) c1' c2') HA.out ?_ ?_; exact E0.out.cellsAt)
          | (refine wpList_store_all rfl 57 (.tmp 4) (.tmp 84) rfl rfl rfl (t := 57) (cs := zeroD) (vs := refV d2 (some ⟨q, 0, none⟩) (some ⟨q2, 0, none⟩) c1' c2') HA.out.2 ?_ (refV_one _ _ _ _ _) rfl ?_; exact E1.out; intro w8 d8 k8'))
        refine bodyPost_ret (results_blk_tmp rfl _ rfl rfl d8 HA.out) rfl ⟨_, _, c1', c2', by rw [L7.out]; rfl, ?_, HKR.out.trans k8' (by simp)⟩
        have o7 := HRR.out
        refine ⟨own_keep o7.bits k8' (fun y hy hm => ?_), own_keep o7.worn k8' (fun y hy hm => ?_), o7.off1, o7.off2⟩
        · simp [Value.ownBlock] at hy hm
          omega
        · simp [Value.ownBlock] at hy hm
          omega
  · go_wp2_with fail
    refine (rmasks_any d.seed d.nw W7 HSD.out (by omega)).mono ?_
    rintro e W8 ⟨Am, cm, rfl, hownm, k8⟩
    have hml := maskL_len (max d.seed 1) d.nw
    rw [hml] at hownm ⊢
    obtain ⟨gm, capm, hmv, hgm, hgl⟩ := hownm.form (by omega)
    injection hmv with hmv
    subst hmv
    have hq7 : q < W7.heap.size := by have := (HR7.out.bits.lt q rfl).2; exact this
    have hneq : gm ≠ q := by omega
    have hneq' : q ≠ gm := by omega
    have hqb0 : q ≠ w.heap.size := by omega
    have hqb1 : w.heap.size ≠ q := by omega
    have HM8 := Lib.hid (Reads.of_own hownm)
    have HD8 := Lib.hid (HD7.out.keep0 k8)
    have HE8 := Lib.hid (HE7.out.keep0 k8)
    have HR8 := Lib.hid (HR7.out.keep0 k8)
    have HK8 := Lib.hid (HK7.out.then k8)
    have hms : max d.seed 1 < 4294967296 := by have := HSD.out; omega
    have HMS := Lib.hid hms
    clear hownm k8 c1q c8q hml hms
    go_wp2_with fail
    go_loopw [8] (fun vi wr => ∃ k : Nat, k ≤ d.nw ∧ vi = .int .i64 k ∧ Blk wr w.heap.size 57 (refV d2 (some ⟨q, 0, none⟩) (some ⟨q2, 0, none⟩) c1' c2').toArray ∧ Blk wr (w.heap.size + 1) 57 zeroD ∧ ROwn base F wr (some ⟨q, 0, none⟩) (some ⟨q2, 0, none⟩) c1' c2' (erD d d2 true σ k) ∧ Keep [] w wr ∧ Reads wr 1 (some ⟨gm, 0, none⟩) d.nw (wordsV (maskL (max d.seed 1) d.nw))) (fun vi _ => d.nw - (intOf vi).toNat)
    case atStart => exact ⟨0, Nat.zero_le _, rfl, HD8.out, HE8.out, HR8.out, HK8.out, HM8.out⟩
    case round =>
      obtain ⟨k, hk, rfl, e0, e1, ro, kr, rm⟩ := hrel
      have p1 := e0.cell 1
      have p3 := e0.cell 3
      rw [(ref_cells d2 (some ⟨q, 0, none⟩) (some ⟨q2, 0, none⟩) c1' c2').2.1, EN.out] at p1
      rw [(ref_cells d2 (some ⟨q, 0, none⟩) (some ⟨q2, 0, none⟩) c1' c2').2.2.2.1, HLen.out] at p3
      by_cases hlt : k < d.nw
      · have HS : Hid (ROwn base F (wr.drew.setCell ⟨q, σ * d.nw + k, none⟩ (.int .u32 ((d.bits.getD (σ * d.nw + k) 0 ||| mSeq (max d.seed 1) k : Nat) : Int))) (some ⟨q, 0, none⟩) (some ⟨q2, 0, none⟩) c1' c2' (erD d d2 true σ (k + 1))) := by
          show ROwn _ _ _ _ _ _ _ _
          rw [erD_succ]
          have e : (erD d d2 true σ k).bits.length = d.bits.length := (erD_bits d d2 true σ k).1
          have ro' := ro.keep0 ((Keep.refl [] wr).drew)
          have := ro'.setBit (σ * d.nw + k) (d.bits.getD (σ * d.nw + k) 0 ||| mSeq (max d.seed 1) k) (ro'.wne (by omega))
          simpa using this
        obtain ⟨hl, hv⟩ := erD_bits d d2 true σ k
        have hb1 := ro.bits.cellAt (σ * d.nw + k) (by omega)
        have hb2 := ro.bits.frozenAt (σ * d.nw + k)
        rw [List.getElem?_map, List.getElem?_eq_getElem (by omega), Option.map_some] at hb1
        have hv2 : (erD d d2 true σ k).bits[σ * d.nw + k]'(by omega) = d.bits.getD (σ * d.nw + k) 0 := by rw [← hv]; simp [show σ * d.nw + k < (erD d d2 true σ k).bits.length by omega]
        rw [hv2] at hb1
        have he : (σ : Int) * (d.nw : Int) + (k : Int) = ((σ * d.nw + k : Nat) : Int) := by rw [HM1.out, Int.natCast_add]
        have hk0 : (0 : Int) ≤ ((σ * d.nw + k : Nat) : Int) := by omega
        have hk1 : ((σ * d.nw + k : Nat) : Int) < (d.bits.length : Int) := by omega
        have hmc : wr.cell? ⟨gm, k, none⟩ = some (.int .u32 ((mSeq (max d.seed 1) k : Nat) : Int)) := by
          obtain ⟨b', o', he', _, hc'⟩ := rm.addr (by omega)
          injection he' with he'
          injection he' with e1' e2'
          subst e1' e2'
          have := hc' k (.int .u32 ((mSeq (max d.seed 1) k : Nat) : Int)) (by simp [maskL, hlt])
          simpa using this
        have hm2 := mSeq_lt HMS.out k
        have HM2 := Lib.hid hm2
        have HBT := Lib.hid (bit_lt d HO.out (σ * d.nw + k))
        have G0 := Lib.hid ((e0.drew).far (p := ⟨q, σ * d.nw + k, none⟩) (by show _ ≠ q; omega) (.int .u32 ((d.bits.getD (σ * d.nw + k) 0 ||| mSeq (max d.seed 1) k : Nat) : Int)))
        have G1 := Lib.hid ((e1.drew).far (p := ⟨q, σ * d.nw + k, none⟩) (by show _ ≠ q; omega) (.int .u32 ((d.bits.getD (σ * d.nw + k) 0 ||| mSeq (max d.seed 1) k : Nat) : Int)))
        have GK := Lib.hid (kr.drew.setCell (p := ⟨q, σ * d.nw + k, none⟩) (by show q < _ → _; intro h; omega) (.int .u32 ((d.bits.getD (σ * d.nw + k) 0 ||| mSeq (max d.seed 1) k : Nat) : Int)))
        have GM := Lib.hid (rm.keep (((Keep.refl [] wr).drew.mono (G := [q]) (by simp)).setCell (p := ⟨q, σ * d.nw + k, none⟩) (by simp) (.int .u32 ((d.bits.getD (σ * d.nw + k) 0 ||| mSeq (max d.seed 1) k : Nat) : Int))) (fun ad had => by injection had with had; subst had; simpa using hneq))
        have hki : (k : Int) < (d.nw : Int) := by omega
        have hki0 : (0 : Int) ≤ (k : Int) := by omega
        clear ro e0 e1 kr rm hl hv hv2 hm2
        generalize mSeq (max d.seed 1) k = m at *
        generalize d.bits.getD (σ * d.nw + k) 0 = y at *
        generalize σ * d.nw + k = at_ at *
        go_upto_region 19 with fail
        have hrr := rrises_any y m wr.drew HBT.out HM2.out
        have HRI := Lib.hid (still_same hrr)
        clear hrr
        refine wp_region_still_tail 14 (by kernel_rfl) (by kernel_rfl) ?_
        simp only [List.take_succ_cons, List.take_zero, List.drop_succ_cons, List.drop_zero]
        change wpStill _ _ (World.drew wr) _ _ _
        (repeat still_step)
        still_call HRI.out
        (repeat still_step)
        refine wpStill_nil ?_
        change wpList _ _ _ _ _ (World.drew wr)
        go_wp2_with fail
        go_roundw
        case rel => exact ⟨k + 1, by omega, by go_num, G0.out, G1.out, HS.out, GK.out, GM.out⟩
        case measure => simp [intOf] <;> omega
      · have HRR : Hid (ROwn base F wr (some ⟨q, 0, none⟩) (some ⟨q2, 0, none⟩) c1' c2' (erD d d2 true σ d.nw)) := by
          obtain rfl : k = d.nw := by omega
          exact ro
        have L7 : Hid (refV (erD d d2 true σ d.nw) (some ⟨q, 0, none⟩) (some ⟨q2, 0, none⟩) c1' c2' = refV d2 (some ⟨q, 0, none⟩) (some ⟨q2, 0, none⟩) c1' c2') := refV_erD _ _ _ _ _ _ _ _ _ EB.out
        have E0 := Lib.hid e0
        have E1 := Lib.hid e1
        have HKR := Lib.hid kr
        clear ro e0 e1 kr p3 rm
        go_wp2_with (first
          | (refine wpList_load_agg rfl 57 (.tmp 2) rfl rfl (cs := refV d2 (some ⟨q, 0, none⟩) (some ⟨q2, 0, none⟩) c1' c2') HA.out ?_ ?_; exact E0.out.cellsAt)
          | (refine wpList_store_all rfl 57 (.tmp 4) (.tmp 83) rfl rfl rfl (t := 57) (cs := zeroD) (vs := refV d2 (some ⟨q, 0, none⟩) (some ⟨q2, 0, none⟩) c1' c2') HA.out.2 ?_ (refV_one _ _ _ _ _) rfl ?_; exact E1.out; intro w8 d8 k8'))
        refine bodyPost_ret (results_blk_tmp rfl _ rfl rfl d8 HA.out) rfl ⟨_, _, c1', c2', by rw [L7.out]; rfl, ?_, HKR.out.trans k8' (by simp)⟩
        have o7 := HRR.out
        refine ⟨own_keep o7.bits k8' (fun y hy hm => ?_), own_keep o7.worn k8' (fun y hy hm => ?_), o7.off1, o7.off2⟩
        · simp [Value.ownBlock] at hy hm
          omega
        · simp [Value.ownBlock] at hy hm
          omega
end
end Go.Proofs.Yteanpgkonhdbpaa
