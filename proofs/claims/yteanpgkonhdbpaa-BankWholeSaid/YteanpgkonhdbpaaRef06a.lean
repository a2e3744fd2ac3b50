/- The reference of flash: Is, Read, goes, Arm, Copy, walked. -/
import Derived.Test.YteanpgkonhdbpaaFlashRead
namespace Go.Proofs.Yteanpgkonhdbpaa
open Go.RowKit

theorem agg_ref : AggOf Try.prog 57 10 := ⟨by kernel_rfl, by kernel_rfl⟩
theorem ref_cells (d : Dev) (A1 A2 : Option Addr) (c1 c2 : Nat) : (refV d A1 A2 c1 c2).toArray[0]? = some (.int .i64 d.ns) ∧ (refV d A1 A2 c1 c2).toArray[1]? = some (.int .i64 d.nw) ∧ (refV d A1 A2 c1 c2).toArray[2]? = some (.int .i64 d.lim) ∧
    (refV d A1 A2 c1 c2).toArray[3]? = some (.slice A1 d.bits.length c1) ∧ (refV d A1 A2 c1 c2).toArray[4]? = some (.slice A2 d.worn.length c2) ∧ (refV d A1 A2 c1 c2).toArray[5]? = some (.bool (!d.on)) ∧ (refV d A1 A2 c1 c2).toArray[6]? = some (.bool d.armed) ∧
    (refV d A1 A2 c1 c2).toArray[7]? = some (.int .i64 d.left) ∧ (refV d A1 A2 c1 c2).toArray[8]? = some (.int .u32 (d.seed : Int)) ∧ (refV d A1 A2 c1 c2).toArray[9]? = some (.int .i64 d.ops) := ⟨rfl, rfl, rfl, rfl, rfl, rfl, rfl, rfl, rfl, rfl⟩

set_option maxRecDepth 100000 in
set_option maxHeartbeats 600000 in
theorem ris_any (A1 A2 : Option Addr) (c1 c2 : Nat) (d : Dev) (s q : Int) (w : World) :
    Calls Try.prog 133 #[.agg (refV d A1 A2 c1 c2).toArray, .int .i64 s, .int .i64 q] w fun e w' => e = .returned (.bool (isS d s q)) ∧ w.alloc (.cells (refV d A1 A2 c1 c2).toArray 57) = w' := by
  obtain ⟨h0, h1, _⟩ := ref_cells d A1 A2 c1 c2
  have HI : Hid (isS d s q = decide (0 ≤ s ∧ s < d.ns ∧ 0 ≤ q ∧ q < d.nw)) := show _ = _ from rfl
  generalize refV d A1 A2 c1 c2 = L at *
  generalize d.ns = ns at *
  generalize d.nw = nw at *
  have hcase : s < 0 ∨ (0 ≤ s ∧ (ns : Int) ≤ s) ∨ (0 ≤ s ∧ s < ns ∧ q < 0) ∨ (0 ≤ s ∧ s < ns ∧ 0 ≤ q ∧ (nw : Int) ≤ q) ∨ (0 ≤ s ∧ s < ns ∧ 0 ≤ q ∧ q < nw) := by omega
  rcases hcase with e1 | ⟨e1, e2⟩ | ⟨e1, e2, e3⟩ | ⟨e1, e2, e3, e4⟩ | ⟨e1, e2, e3, e4⟩
  case' inr.inr.inr.inr =>
    have H2 : Hid (isS d s q = true) := by
      show _ = _
      rw [HI.out, decide_eq_true (by omega)]
  case' inl | inr.inl | inr.inr.inl | inr.inr.inr.inl =>
    have H2 : Hid (isS d s q = false) := by
      show _ = _
      rw [HI.out, decide_eq_false (by omega)]
  all_goals
    rw [H2.out]
    go_enter Try.func133, Try.ntmps133
    go_wp2
    go_ret
    first | exact ⟨rfl, rfl⟩ | exact ⟨ret_bool (decide_eq_false (by omega)), rfl⟩ | exact ⟨ret_bool (decide_eq_true (by omega)), rfl⟩

theorem results_blk_tmp {P : Program} {w : World} {fn : Func} {p q : Tmp} {ty : TypeId} (h : fn.results = #[.cell p ty, .tmp q]) (tmps : Array Value) {g t : Nat} {vs : List Value} {v : Value} (hp : tmps.getD p undef = .pointer (some ⟨g, 0, none⟩)) (hq : tmps.getD q undef = v)
    (hb : Blk w g t vs.toArray) (hA : AggOf P ty vs.length) : (results fn tmps).run P w = .ok (.tuple #[.agg vs.toArray, v]) w := by
  have hp' : tmps[p]?.getD undef = .pointer (some ⟨g, 0, none⟩) := by simpa using hp
  have hq' : tmps[q]?.getD undef = v := by simpa using hq
  have hc : CellsAt w g 0 vs := fun j u hu => by rw [Nat.zero_add, hb.cell]; simpa using hu
  simp [results, h, hp', hq', asAddr, run_loadVar_agg hA hc]

theorem RefAt.bit {w : World} {A1 A2 : Option Addr} {d : Dev} (h : RefAt w A1 A2 d) {i : Nat} (hi : i < d.bits.length) : ∃ b o, A1 = some ⟨b, o, none⟩ ∧ b < w.heap.size ∧ w.cell? ⟨b, o + i, none⟩ = some (.int .u32 ((d.bits.getD i 0 : Nat) : Int)) := by
  obtain ⟨b, o, e, hb, hc⟩ := h.bits.addr (by omega)
  exact ⟨b, o, e, hb, hc i _ (by simp [hi])⟩
theorem RefAt.wear {w : World} {A1 A2 : Option Addr} {d : Dev} (h : RefAt w A1 A2 d) {i : Nat} (hi : i < d.worn.length) : ∃ b o, A2 = some ⟨b, o, none⟩ ∧ b < w.heap.size ∧ w.cell? ⟨b, o + i, none⟩ = some (.int .i64 ((d.worn.getD i 0 : Nat) : Int)) := by
  obtain ⟨b, o, e, hb, hc⟩ := h.worn.addr (by omega)
  exact ⟨b, o, e, hb, hc i _ (by simp [hi])⟩
/-- Where a word is, as numbers. -/
theorem is_nums (d : Dev) (ho : d.Ok) (s q : Int) (h : isS d s q = true) : ∃ σ τ : Nat, s = σ ∧ q = τ ∧ σ < d.ns ∧ τ < d.nw ∧ (σ : Int) * d.nw + τ = ((atS d s q : Nat) : Int) ∧ atS d s q < d.bits.length ∧ (0 : Int) ≤ (σ : Int) * d.nw ∧ (σ : Int) * d.nw ≤ 65536 := by
  rcases is_cases d ho s q with ⟨_, _, hlt⟩ | ⟨h', _⟩
  · unfold isS at h
    simp only [decide_eq_true_eq] at h
    obtain ⟨σ, rfl⟩ : ∃ σ : Nat, s = (σ : Int) := ⟨s.toNat, by omega⟩
    obtain ⟨τ, rfl⟩ : ∃ τ : Nat, q = (τ : Int) := ⟨q.toNat, by omega⟩
    have hp : σ * d.nw ≤ 65536 := Nat.le_trans (Nat.mul_le_mul (show σ ≤ 64 by have := ho.ns2; omega) ho.nw2) (by decide)
    have hpz : (σ : Int) * d.nw ≤ 65536 := by have h := Int.ofNat_le.2 hp; rw [Int.natCast_mul] at h; exact h
    have hpn : 0 ≤ (σ : Int) * d.nw := by have h := Int.ofNat_le.2 (Nat.zero_le (σ * d.nw)); rw [Int.natCast_mul] at h; exact h
    exact ⟨σ, τ, rfl, rfl, by omega, by omega, by simp [atS], hlt, hpn, hpz⟩
  · rw [h] at h'; cases h'

end Go.Proofs.Yteanpgkonhdbpaa
