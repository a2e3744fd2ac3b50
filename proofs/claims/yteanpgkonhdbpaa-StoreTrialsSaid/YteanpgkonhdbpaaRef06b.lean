/- The reference of flash: Is, Read, goes, Arm, Copy, walked. The reference of flash: goes, Arm, Copy, walked. -/
import Derived.Test.YteanpgkonhdbpaaFlashRead
namespace Go.Proofs.Yteanpgkonhdbpaa
open Go.RowKit

theorem agg_ref : AggOf Try.prog 57 10 := ⟨by kernel_rfl, by kernel_rfl⟩
theorem ref_cells (d : Dev) (A1 A2 : Option Addr) (c1 c2 : Nat) : (refV d A1 A2 c1 c2).toArray[0]? = some (.int .i64 d.ns) ∧ (refV d A1 A2 c1 c2).toArray[1]? = some (.int .i64 d.nw) ∧ (refV d A1 A2 c1 c2).toArray[2]? = some (.int .i64 d.lim) ∧
    (refV d A1 A2 c1 c2).toArray[3]? = some (.slice A1 d.bits.length c1) ∧ (refV d A1 A2 c1 c2).toArray[4]? = some (.slice A2 d.worn.length c2) ∧ (refV d A1 A2 c1 c2).toArray[5]? = some (.bool (!d.on)) ∧ (refV d A1 A2 c1 c2).toArray[6]? = some (.bool d.armed) ∧
    (refV d A1 A2 c1 c2).toArray[7]? = some (.int .i64 d.left) ∧ (refV d A1 A2 c1 c2).toArray[8]? = some (.int .u32 (d.seed : Int)) ∧ (refV d A1 A2 c1 c2).toArray[9]? = some (.int .i64 d.ops) := ⟨rfl, rfl, rfl, rfl, rfl, rfl, rfl, rfl, rfl, rfl⟩

set_option maxRecDepth 100000 in
set_option maxHeartbeats 600000 in
theorem ris_any (A1 A2 : Option Addr) (c1 c2 : Nat) (d : Dev) (s q : Int) (w : World) :
    Calls Try.prog 133 #[.agg (refV d A1 A2 c1 c2).toArray, .int .i64 s, .int .i64 q] w fun e w' => e = .returned (.bool (isS d s q)) ∧ w.alloc (.cells (refV d A1 A2 c1 c2).toArray 57) = w' := by
  obtain ⟨h0, h1, _⟩ := ref_cells d A1 A2 c1 c2
  have HI : Hid (isS d s q = decide (0 ≤ s ∧ s < d.ns ∧ 0 ≤ q ∧ q < d.nw)) := show _ = _ from rfl
  generalize refV d A1 A2 c1 c2 = L at *
  generalize d.ns = ns at *
  generalize d.nw = nw at *
  have hcase : s < 0 ∨ (0 ≤ s ∧ (ns : Int) ≤ s) ∨ (0 ≤ s ∧ s < ns ∧ q < 0) ∨ (0 ≤ s ∧ s < ns ∧ 0 ≤ q ∧ (nw : Int) ≤ q) ∨ (0 ≤ s ∧ s < ns ∧ 0 ≤ q ∧ q < nw) := by omega
  rcases hcase with e1 | ⟨e1, e2⟩ | ⟨e1, e2, e3⟩ | ⟨e1, e2, e3, e4⟩ | ⟨e1, e2, e3, e4⟩
  case' inr.inr.inr.inr =>
    have H2 : Hid (isS d s q = true) := by
      show _ = _
      rw [HI.out, decide_eq_true (by omega)]
  case' inl | inr.inl | inr.inr.inl | inr.inr.inr.inl =>
    have H2 : Hid (isS d s q = false) := by
      show _ = _
      rw [HI.out, decide_eq_false (by omega)]
  all_goals
    rw [H2.out]
    go_enter Try.func133, Try.ntmps133
    go_wp2
    go_ret
    first | exact ⟨rfl, rfl⟩ | exact ⟨ret_bool (decide_eq_false (by omega)), rfl⟩ | exact ⟨ret_bool (decide_eq_true (by omega)), rfl⟩

theorem results_blk_tmp {P : Program} {w : World} {fn : Func} {p q : Tmp} {ty : TypeId} (h : fn.results = #[.cell p ty, .tmp q]) (tmps : Array Value) {g t : Nat} {vs : List Value} {v : Value} (hp : tmps.getD p undef = .pointer (some ⟨g, 0, none⟩)) (hq : tmps.getD q undef = v)
    (hb : Blk w g t vs.toArray) (hA : AggOf P ty vs.length) : (results fn tmps).run P w = .ok (.tuple #[.agg vs.toArray, v]) w := by
  have hp' : tmps[p]?.getD undef = .pointer (some ⟨g, 0, none⟩) := by simpa using hp
  have hq' : tmps[q]?.getD undef = v := by simpa using hq
  have hc : CellsAt w g 0 vs := fun j u hu => by rw [Nat.zero_add, hb.cell]; simpa using hu
  simp [results, h, hp', hq', asAddr, run_loadVar_agg hA hc]

theorem RefAt.bit {w : World} {A1 A2 : Option Addr} {d : Dev} (h : RefAt w A1 A2 d) {i : Nat} (hi : i < d.bits.length) : ∃ b o, A1 = some ⟨b, o, none⟩ ∧ b < w.heap.size ∧ w.cell? ⟨b, o + i, none⟩ = some (.int .u32 ((d.bits.getD i 0 : Nat) : Int)) := by
  obtain ⟨b, o, e, hb, hc⟩ := h.bits.addr (by omega)
  exact ⟨b, o, e, hb, hc i _ (by simp [hi])⟩
theorem RefAt.wear {w : World} {A1 A2 : Option Addr} {d : Dev} (h : RefAt w A1 A2 d) {i : Nat} (hi : i < d.worn.length) : ∃ b o, A2 = some ⟨b, o, none⟩ ∧ b < w.heap.size ∧ w.cell? ⟨b, o + i, none⟩ = some (.int .i64 ((d.worn.getD i 0 : Nat) : Int)) := by
  obtain ⟨b, o, e, hb, hc⟩ := h.worn.addr (by omega)
  exact ⟨b, o, e, hb, hc i _ (by simp [hi])⟩
/-- Where a word is, as numbers. -/
theorem is_nums (d : Dev) (ho : d.Ok) (s q : Int) (h : isS d s q = true) : ∃ σ τ : Nat, s = σ ∧ q = τ ∧ σ < d.ns ∧ τ < d.nw ∧ (σ : Int) * d.nw + τ = ((atS d s q : Nat) : Int) ∧ atS d s q < d.bits.length ∧ (0 : Int) ≤ (σ : Int) * d.nw ∧ (σ : Int) * d.nw ≤ 65536 := by
  rcases is_cases d ho s q with ⟨_, _, hlt⟩ | ⟨h', _⟩
  · unfold isS at h
    simp only [decide_eq_true_eq] at h
    obtain ⟨σ, rfl⟩ : ∃ σ : Nat, s = (σ : Int) := ⟨s.toNat, by omega⟩
    obtain ⟨τ, rfl⟩ : ∃ τ : Nat, q = (τ : Int) := ⟨q.toNat, by omega⟩
    have hp : σ * d.nw ≤ 65536 := Nat.le_trans (Nat.mul_le_mul (show σ ≤ 64 by have := ho.ns2; omega) ho.nw2) (by decide)
    have hpz : (σ : Int) * d.nw ≤ 65536 := by have h := Int.ofNat_le.2 hp; rw [Int.natCast_mul] at h; exact h
    have hpn : 0 ≤ (σ : Int) * d.nw := by have h := Int.ofNat_le.2 (Nat.zero_le (σ * d.nw)); rw [Int.natCast_mul] at h; exact h
    exact ⟨σ, τ, rfl, rfl, by omega, by omega, by simp [atS], hlt, hpn, hpz⟩
  · rw [h] at h'; cases h'

end Go.Proofs.Yteanpgkonhdbpaa

namespace Go.Proofs.Yteanpgkonhdbpaa
open Go.RowKit

theorem refV_one (d : Dev) (A1 A2 : Option Addr) (c1 c2 : Nat) : ∀ v ∈ refV d A1 A2 c1 c2, v.oneCell' = true := by
  intro v hv
  simp only [refV, List.mem_cons, List.not_mem_nil, or_false] at hv
  rcases hv with rfl | rfl | rfl | rfl | rfl | rfl | rfl | rfl | rfl | rfl <;> rfl
abbrev zeroD : Array Value := #[.int .i64 0, .int .i64 0, .int .i64 0, .slice none 0 0, .slice none 0 0, .bool false, .bool false, .int .i64 0, .int .u32 0, .int .i64 0]
/-- The boxed argument and the result's cells. -/
def box2 (w : World) (L : List Value) : World := (w.alloc (.cells L.toArray 57)).alloc (.cells zeroD 57)
theorem box2_facts (w : World) (L : List Value) : Blk (box2 w L) w.heap.size 57 L.toArray ∧ Blk (box2 w L) (w.heap.size + 1) 57 zeroD ∧ Keep [] w (box2 w L) ∧ (box2 w L).heap.size = w.heap.size + 2 := by
  unfold box2
  refine ⟨(Blk.new _ _ _).alloc _, ?_, ((Keep.refl _ w).alloc _).alloc _, by simp⟩
  have := Blk.new (w.alloc (.cells L.toArray 57)) 57 zeroD
  rw [World.size_alloc] at this
  exact this

set_option maxRecDepth 100000 in
set_option maxHeartbeats 1000000 in
theorem rgoes_any (A1 A2 : Option Addr) (c1 c2 : Nat) (d : Dev) (w : World) (hl : d.left ≤ 9223372036854775807) :
    Calls Try.prog 135 #[.agg (refV d A1 A2 c1 c2).toArray] w fun e w' => e = .returned (.tuple #[.agg (refV (goesS d).1 A1 A2 c1 c2).toArray, .bool (goesS d).2]) ∧ Keep [] w w' := by
  obtain ⟨b0, b1, k1, hsz⟩ := box2_facts w (refV d A1 A2 c1 c2)
  have HW : Hid ((w.alloc (.cells (refV d A1 A2 c1 c2).toArray 57)).alloc (.cells zeroD 57) = box2 w (refV d A1 A2 c1 c2)) := show _ = _ from rfl
  generalize box2 w (refV d A1 A2 c1 c2) = W at *
  have HA : Hid (AggOf Try.prog 57 10) := agg_ref
  have c5 := b0.cell 5
  have c6 := b0.cell 6
  have c7 := b0.cell 7
  have c9 := b0.cell 9
  have f5 := b0.frozen 5
  have f6 := b0.frozen 6
  have f7 := b0.frozen 7
  have f9 := b0.frozen 9
  obtain ⟨_, _, _, _, _, h5, h6, h7, _, h9⟩ := ref_cells d A1 A2 c1 c2
  rw [h5] at c5
  rw [h6] at c6
  rw [h7] at c7
  rw [h9] at c9
  clear h5 h6 h7 h9
  have B0 := Lib.hid b0
  have B1 := Lib.hid b1
  clear b0 b1
  cases ha : d.armed
  · have HS : Hid (goesS d = ({ d with ops := wrap64 (d.ops + 1) }, false)) := by show _ = _; unfold goesS; rw [ha]; rfl
    rw [ha] at c6
    rw [HS.out]
    clear ha
    have L0 := Lib.hid (Blk.cast (cs' := (refV { d with ops := wrap64 (d.ops + 1) } A1 A2 c1 c2).toArray) (B0.out.set_ 9 (.int .i64 (wrap64 (d.ops + 1)))) rfl)
    go_enter Try.func135, Try.ntmps135
    go_wp2_with (first
      | rw [HW.out]
      | (refine wpList_load_agg rfl 57 (.tmp 1) rfl rfl (cs := refV { d with ops := wrap64 (d.ops + 1) } A1 A2 c1 c2) HA.out ?_ ?_; exact L0.out.cellsAt)
      | (refine wpList_store_all rfl 57 (.tmp 2) (.tmp 11) rfl rfl rfl (t := 57) (cs := zeroD) (vs := refV { d with ops := wrap64 (d.ops + 1) } A1 A2 c1 c2) HA.out.2 ?_ (refV_one _ _ _ _ _) rfl ?_; exact (B1.out.far (by simp) _); intro w2 d1 k2))
    refine bodyPost_ret (results_blk_tmp rfl _ rfl rfl d1 HA.out) rfl ⟨rfl, ?_⟩
    exact (k1.setCell (by simp) _).trans k2 (by simp)
  · rcases Nat.eq_zero_or_pos d.left with h | h
    · have HS : Hid (goesS d = ({ d with ops := wrap64 (d.ops + 1), on := false, armed := false }, true)) := by show _ = _; unfold goesS; rw [ha, h]; rfl
      have L0 := Lib.hid (Blk.cast (cs' := (refV { d with ops := wrap64 (d.ops + 1), on := false, armed := false } A1 A2 c1 c2).toArray) (((B0.out.set_ 9 (.int .i64 (wrap64 (d.ops + 1)))).set_ 5 (.bool true)).set_ 6 (.bool false)) (by show _ = List.toArray _; unfold refV; rfl))
      rw [ha] at c6
      rw [h] at c7
      rw [HS.out]
      clear ha h hl
      go_enter Try.func135, Try.ntmps135
      go_wp2_with (first
        | rw [HW.out]
        | (refine wpList_load_agg rfl 57 (.tmp 1) rfl rfl (cs := refV { d with ops := wrap64 (d.ops + 1), on := false, armed := false } A1 A2 c1 c2) HA.out ?_ ?_; exact L0.out.cellsAt)
        | (refine wpList_store_all rfl 57 (.tmp 2) (.tmp 22) rfl rfl rfl (t := 57) (cs := zeroD) (vs := refV { d with ops := wrap64 (d.ops + 1), on := false, armed := false } A1 A2 c1 c2) HA.out.2 ?_ (refV_one _ _ _ _ _) rfl ?_; exact (((B1.out.far (by simp) _).far (by simp) _).far (by simp) _); intro w2 d1 k2))
      refine bodyPost_ret (results_blk_tmp rfl _ rfl rfl d1 HA.out) rfl ⟨rfl, ?_⟩
      exact (((k1.setCell (by simp) _).setCell (by simp) _).setCell (by simp) _).trans k2 (by simp)
    · have HS : Hid (goesS d = ({ d with ops := wrap64 (d.ops + 1), left := d.left - 1 }, false)) := by show _ = _; unfold goesS; rw [ha, if_pos rfl, if_pos h]
      have HN : Hid ((d.left : Int) - 1 = ((d.left - 1 : Nat) : Int)) := by show _ = _; omega
      have L0 := Lib.hid (Blk.cast (cs' := (refV { d with ops := wrap64 (d.ops + 1), left := d.left - 1 } A1 A2 c1 c2).toArray) ((B0.out.set_ 9 (.int .i64 (wrap64 (d.ops + 1)))).set_ 7 (.int .i64 ((d.left - 1 : Nat) : Int))) rfl)
      rw [ha] at c6
      rw [HS.out]
      clear ha
      go_enter Try.func135, Try.ntmps135
      go_wp2_with (first
        | rw [HW.out]
        | (rw [HN.out]; refine wpList_load_agg rfl 57 (.tmp 1) rfl rfl (cs := refV { d with ops := wrap64 (d.ops + 1), left := d.left - 1 } A1 A2 c1 c2) HA.out ?_ ?_; exact L0.out.cellsAt)
        | (refine wpList_store_all rfl 57 (.tmp 2) (.tmp 19) rfl rfl rfl (t := 57) (cs := zeroD) (vs := refV { d with ops := wrap64 (d.ops + 1), left := d.left - 1 } A1 A2 c1 c2) HA.out.2 ?_ (refV_one _ _ _ _ _) rfl ?_; exact ((B1.out.far (by simp) _).far (by simp) _); intro w2 d1 k2))
      refine bodyPost_ret (results_blk_tmp rfl _ rfl rfl d1 HA.out) rfl ⟨rfl, ?_⟩
      exact ((k1.setCell (by simp) _).setCell (by simp) _).trans k2 (by simp)
end Go.Proofs.Yteanpgkonhdbpaa
