/- ref06.Erase, walked. -/
import Derived.Test.YteanpgkonhdbpaaRefProg
namespace Go.Proofs.Yteanpgkonhdbpaa
open Go.RowKit

theorem refV_erD (d d2 : Dev) (t : Bool) (σ k : Nat) (A1 A2 : Option Addr) (c1 c2 : Nat) (h : d2.bits = d.bits) : refV (erD d d2 t σ k) A1 A2 c1 c2 = refV d2 A1 A2 c1 c2 := by
  unfold refV
  rw [(erD_bits d d2 t σ k).1, ← h]
  rfl
theorem refV_wornD (d : Dev) (σ : Nat) (A1 A2 : Option Addr) (c1 c2 : Nat) : refV (wornD d σ) A1 A2 c1 c2 = refV d A1 A2 c1 c2 := by
  simp [refV, wornD]
theorem ROwn.form2 {base : Nat} {F : List Nat} {w : World} {A1 A2 : Option Addr} {c1 c2 : Nat} {d : Dev} (h : ROwn base F w A1 A2 c1 c2 d) (hn : 0 < d.worn.length) : ∃ q, A2 = some ⟨q, 0, none⟩ ∧ base ≤ q ∧ q < w.heap.size ∧ q ∉ F := by
  obtain ⟨q, cap, hv, hb, hlt⟩ := h.worn.form hn
  injection hv with e1
  subst e1
  exact ⟨q, rfl, hb, hlt, h.off2 q rfl⟩

section
variable (base : Nat) (F : List Nat) (A1 A2 : Option Addr) (c1 c2 : Nat) (d : Dev) (s : Int) (w : World) (hr : ROwn base F w A1 A2 c1 c2 d) (ho : d.Ok) (hF : ∀ x ∈ F, x < w.heap.size) (hbase : base ≤ w.heap.size)
include hr ho

set_option maxRecDepth 100000 in
set_option maxHeartbeats 1000000 in
theorem rerase_no (h : d.on = false ∨ ¬ (0 ≤ s ∧ s < d.ns) ∨ d.lim ≤ d.worn.getD s.toNat 0) :
    Calls Try.prog 120 #[.agg (refV d A1 A2 c1 c2).toArray, .int .i64 s] w (RetRef base F w (eraseS d s).1 (eraseS d s).2) := by
  obtain ⟨b0, b1, k1, hsz⟩ := box2_facts w (refV d A1 A2 c1 c2)
  have HW : Hid ((w.alloc (.cells (refV d A1 A2 c1 c2).toArray 57)).alloc (.cells zeroD 57) = box2 w (refV d A1 A2 c1 c2)) := show _ = _ from rfl
  generalize box2 w (refV d A1 A2 c1 c2) = W at *
  have HA : Hid (AggOf Try.prog 57 10) := agg_ref
  have c5 := b0.cell 5
  have c0 := b0.cell 0
  have c2' := b0.cell 2
  have c4 := b0.cell 4
  obtain ⟨h0', _, h2', _, h4', h5', _⟩ := ref_cells d A1 A2 c1 c2
  rw [h5'] at c5
  rw [h0'] at c0
  rw [h2'] at c2'
  rw [h4'] at c4
  have HR : Hid (eraseS d s = if d.on = false then (d, 63) else if ¬ (0 ≤ s ∧ s < d.ns) then (d, 60) else if d.lim ≤ d.worn.getD s.toNat 0 then (d, 62) else
    ({ (goesS { d with worn := d.worn.set s.toNat (d.worn.getD s.toNat 0 + 1) }).1 with bits := eraseBits (goesS { d with worn := d.worn.set s.toNat (d.worn.getD s.toNat 0 + 1) }).2 d.seed d.bits (s.toNat * d.nw) d.nw }, if (goesS { d with worn := d.worn.set s.toNat (d.worn.getD s.toNat 0 + 1) }).2 then 63 else 0)) := show _ = _ from rfl
  have B0 := Lib.hid b0
  have B1 := Lib.hid b1
  have hlt0 : w.heap.size < W.heap.size := by omega
  have HRW := Lib.hid hr
  have hns := ho.ns2
  have hlim := ho.lim2
  have hwl := ho.wlen
  clear b0 b1 h5' h0' h2' h4' hsz
  cases hon : d.on
  · have HR2 : Hid (eraseS d s = (d, 63)) := by show _ = _; rw [HR.out, if_pos hon]
    rw [hon] at c5
    rw [HR2.out]
    clear HR hon h hr ho hwl
    go_enter Try.func120, Try.ntmps120
    go_wp2_with (first
      | rw [HW.out]
      | (refine wpList_load_agg rfl 57 (.tmp 2) rfl rfl (cs := refV d A1 A2 c1 c2) HA.out ?_ ?_; exact B0.out.cellsAt)
      | (refine wpList_store_all rfl 57 (.tmp 4) (.tmp 12) rfl rfl rfl (t := 57) (cs := zeroD) (vs := refV d A1 A2 c1 c2) HA.out.2 ?_ (refV_one _ _ _ _ _) rfl ?_; exact B1.out; intro w2 d1 k2))
    have kf := k1.trans k2 (by simp)
    exact bodyPost_ret (results_blk_tmp rfl _ rfl rfl d1 HA.out) rfl ⟨A1, A2, c1, _, rfl, HRW.out.keep0 kf, kf⟩
  · rw [hon] at c5
    have hcase : s < 0 ∨ (0 ≤ s ∧ (d.ns : Int) ≤ s) ∨ (0 ≤ s ∧ s < d.ns) := by omega
    rcases hcase with e1 | ⟨e1, e2⟩ | ⟨e1, e2⟩
    case' inl | inr.inl =>
      have HR2 : Hid (eraseS d s = (d, 60)) := by show _ = _; rw [HR.out, if_neg (by simp [hon]), if_pos (by omega)]
      rw [HR2.out]
      clear HR hon h hr ho hwl
      go_enter Try.func120, Try.ntmps120
      go_wp2_with (first
        | rw [HW.out]
        | (refine wpList_load_agg rfl 57 (.tmp 2) rfl rfl (cs := refV d A1 A2 c1 c2) HA.out ?_ ?_; exact B0.out.cellsAt)
        | (refine wpList_store_all rfl 57 (.tmp 4) (.tmp 21) rfl rfl rfl (t := 57) (cs := zeroD) (vs := refV d A1 A2 c1 c2) HA.out.2 ?_ (refV_one _ _ _ _ _) rfl ?_; exact B1.out; intro w2 d1 k2))
      have kf := k1.trans k2 (by simp)
      exact bodyPost_ret (results_blk_tmp rfl _ rfl rfl d1 HA.out) rfl ⟨A1, A2, c1, _, rfl, HRW.out.keep0 kf, kf⟩
    · obtain ⟨σ, rfl⟩ : ∃ σ : Nat, s = (σ : Int) := ⟨s.toNat, by omega⟩
      have hle : d.lim ≤ d.worn.getD σ 0 := by
        rcases h with h | h | h
        · rw [hon] at h; cases h
        · omega
        · exact h
      have HR2 : Hid (eraseS d σ = (d, 62)) := by show _ = _; rw [HR.out, if_neg (by simp [hon]), if_neg (by omega)]; exact if_pos hle
      rw [HR2.out]
      obtain ⟨b, o, rfl, hb, hcell⟩ := (hr.keep0 k1).at_.wear (i := σ) (by omega)
      have hle2 : (d.lim : Int) ≤ ((d.worn.getD σ 0 : Nat) : Int) := by omega
      have hl0 : (0 : Int) ≤ (σ : Int) := by omega
      have hl1 : (σ : Int) < (d.worn.length : Int) := by omega
      clear HR hon h hr ho hle
      generalize d.worn.getD σ 0 = x at *
      go_enter Try.func120, Try.ntmps120
      go_wp2_with (rw [HW.out])
      go_quiet (fail)
      have F0 := Lib.hid (B0.out.drewN nq)
      have F1 := Lib.hid (B1.out.drewN nq)
      have G1 := Lib.hid (k1.drewN nq)
      go_wp2_with (first
        | (refine wpList_load_agg rfl 57 (.tmp 2) rfl rfl (cs := refV d A1 (some ⟨b, o, none⟩) c1 c2) HA.out ?_ ?_; exact F0.out.cellsAt)
        | (refine wpList_store_all rfl 57 (.tmp 4) (.tmp 30) rfl rfl rfl (t := 57) (cs := zeroD) (vs := refV d A1 (some ⟨b, o, none⟩) c1 c2) HA.out.2 ?_ (refV_one _ _ _ _ _) rfl ?_; exact F1.out; intro w2 d1 k2))
      have kf := G1.out.trans k2 (by simp)
      exact bodyPost_ret (results_blk_tmp rfl _ rfl rfl d1 HA.out) rfl ⟨A1, _, c1, c2, rfl, HRW.out.keep0 kf, kf⟩
end
end Go.Proofs.Yteanpgkonhdbpaa
