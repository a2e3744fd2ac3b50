/- The reference of flash: Arm, Copy, walked. -/
import Derived.Test.YteanpgkonhdbpaaRef06b
import Derived.Test.YteanpgkonhdbpaaReg
namespace Go.Proofs.Yteanpgkonhdbpaa
open Go.RowKit

set_option maxRecDepth 100000 in
set_option maxHeartbeats 1000000 in
theorem rarm_any (A1 A2 : Option Addr) (c1 c2 : Nat) (d : Dev) (n : Int) (s : Nat) (w : World) :
    Calls Try.prog 84 #[.agg (refV d A1 A2 c1 c2).toArray, .int .i64 n, .int .u32 (s : Int)] w fun e w' => e = .returned (.agg (refV (armS d n s) A1 A2 c1 c2).toArray) ∧ Keep [] w w' := by
  obtain ⟨b0, b1, k1, hsz⟩ := box2_facts w (refV d A1 A2 c1 c2)
  have HW : Hid ((w.alloc (.cells (refV d A1 A2 c1 c2).toArray 57)).alloc (.cells zeroD 57) = box2 w (refV d A1 A2 c1 c2)) := show _ = _ from rfl
  generalize box2 w (refV d A1 A2 c1 c2) = W at *
  have HA : Hid (AggOf Try.prog 57 10) := agg_ref
  have c6 := b0.cell 6
  have c7 := b0.cell 7
  have c8 := b0.cell 8
  have f6 := b0.frozen 6
  have f7 := b0.frozen 7
  have f8 := b0.frozen 8
  obtain ⟨_, _, _, _, _, _, h6, h7, h8, _⟩ := ref_cells d A1 A2 c1 c2
  rw [h6] at c6
  rw [h7] at c7
  rw [h8] at c8
  clear h6 h7 h8
  have B0 := Lib.hid b0
  have B1 := Lib.hid b1
  clear b0 b1
  have L0 := Lib.hid (Blk.cast (cs' := (refV (armS d n s) A1 A2 c1 c2).toArray) (((B0.out.set_ 6 (.bool true)).set_ 7 (.int .i64 ((n.toNat : Nat) : Int))).set_ 8 (.int .u32 (s : Int))) rfl)
  rcases Int.lt_or_le n 0 with h | h
  · rw [show n.toNat = 0 by omega] at L0
    go_enter Try.func84, Try.ntmps84
    go_wp2_with (first
      | rw [HW.out]
      | (refine wpList_load_agg rfl 57 (.tmp 3) rfl rfl (cs := refV (armS d n s) A1 A2 c1 c2) HA.out ?_ ?_; exact L0.out.cellsAt)
      | (refine wpList_store_all rfl 57 (.tmp 6) (.tmp 14) rfl rfl rfl (t := 57) (cs := zeroD) (vs := refV (armS d n s) A1 A2 c1 c2) HA.out.2 ?_ (refV_one _ _ _ _ _) rfl ?_; exact (((B1.out.far (by simp) _).far (by simp) _).far (by simp) _); intro w2 d1 k2))
    refine bodyPost_ret (results_blk rfl _ rfl d1 HA.out) rfl ⟨rfl, ?_⟩
    exact (((k1.setCell (by simp) _).setCell (by simp) _).setCell (by simp) _).trans k2 (by simp)
  · rw [show ((n.toNat : Nat) : Int) = n by omega] at L0
    go_enter Try.func84, Try.ntmps84
    go_wp2_with (first
      | rw [HW.out]
      | (refine wpList_load_agg rfl 57 (.tmp 3) rfl rfl (cs := refV (armS d n s) A1 A2 c1 c2) HA.out ?_ ?_; exact L0.out.cellsAt)
      | (refine wpList_store_all rfl 57 (.tmp 6) (.tmp 14) rfl rfl rfl (t := 57) (cs := zeroD) (vs := refV (armS d n s) A1 A2 c1 c2) HA.out.2 ?_ (refV_one _ _ _ _ _) rfl ?_; exact (((B1.out.far (by simp) _).far (by simp) _).far (by simp) _); intro w2 d1 k2))
    refine bodyPost_ret (results_blk rfl _ rfl d1 HA.out) rfl ⟨rfl, ?_⟩
    exact (((k1.setCell (by simp) _).setCell (by simp) _).setCell (by simp) _).trans k2 (by simp)

/-- A device's value whose two slices are the call's own. -/
structure RefOwn (base : Nat) (w : World) (A1 A2 : Option Addr) (c1 c2 : Nat) (d : Dev) : Prop where
  bits : w.ownsRow base 33 1 (.slice A1 d.bits.length c1) d.bits.length (wordsV d.bits)
  worn : w.ownsRow base 3 1 (.slice A2 d.worn.length c2) d.worn.length (natsV d.worn)
theorem RefOwn.at_ {base : Nat} {w : World} {A1 A2 : Option Addr} {c1 c2 : Nat} {d : Dev} (h : RefOwn base w A1 A2 c1 c2 d) : RefAt w A1 A2 d := ⟨Reads.of_own h.bits, Reads.of_own h.worn⟩
def RetCopy (w : World) (d : Dev) (e : Ending) (w' : World) : Prop := ∃ A1 A2 c1 c2, e = .returned (.agg (refV d A1 A2 c1 c2).toArray) ∧ RefOwn w.heap.size w' A1 A2 c1 c2 d ∧ Keep [] w w'

theorem slice_int06 : SliceOf Try.prog 55 3 1 8 := ⟨Try.underlying55, by kernel_rfl, by decide⟩
set_option maxRecDepth 100000 in
set_option maxHeartbeats 1000000 in
theorem rcopy_any (A1 A2 : Option Addr) (c1 c2 : Nat) (d : Dev) (w : World) (hr : RefAt w A1 A2 d) (hb1 : d.bits.length ≤ 1000000) (hb2 : d.worn.length ≤ 1000000) :
    Calls Try.prog 134 #[.agg (refV d A1 A2 c1 c2).toArray] w (RetCopy w d) := by
  obtain ⟨b0, b1, k1, hsz⟩ := box2_facts w (refV d A1 A2 c1 c2)
  have HW : Hid ((w.alloc (.cells (refV d A1 A2 c1 c2).toArray 57)).alloc (.cells zeroD 57) = box2 w (refV d A1 A2 c1 c2)) := show _ = _ from rfl
  generalize box2 w (refV d A1 A2 c1 c2) = W at *
  have hlt : w.heap.size + 1 < W.heap.size := by omega
  have hlt0 : w.heap.size < W.heap.size := by omega
  clear hsz
  have HA : Hid (AggOf Try.prog 57 10) := agg_ref
  have c3 := b0.cell 3
  have f3 := b0.frozen 3
  obtain ⟨_, _, _, h3, h4, _⟩ := ref_cells d A1 A2 c1 c2
  rw [h3] at c3
  have B0 := Lib.hid b0
  have B1 := Lib.hid b1
  clear b0 b1 h3
  have H4 := Lib.hid h4
  clear h4
  have R1 : Hid (Reads W 1 A1 d.bits.length (wordsV d.bits)) := hr.bits.keep0 k1
  have R2 : Hid (Reads w 1 A2 d.worn.length (natsV d.worn)) := hr.worn
  clear hr
  have hbs : ∀ u ∈ wordsV d.bits, u.oneCell' = true := by intro u hu; obtain ⟨x, _, rfl⟩ := List.mem_map.1 hu; rfl
  have hws : ∀ u ∈ natsV d.worn, u.oneCell' = true := by intro u hu; obtain ⟨x, _, rfl⟩ := List.mem_map.1 hu; rfl
  have HB := Lib.hid hbs
  have HWs := Lib.hid hws
  clear hbs hws
  have O1 : Hid ((W.alloc (.cells #[] 33)).ownsRow W.heap.size 33 1 (.slice (some ⟨W.heap.size, 0, none⟩) 0 0) 0 []) := World.ownsRow_lit (base := W.heap.size) (e := 33) (size := 1) W #[] 0 (Nat.le_refl _) (by decide) rfl
  go_enter Try.func134, Try.ntmps134
  go_wp2_with (first | rw [HW.out] | refine stop_at 6 rfl ?_)
  constructor
  refine wpList_append_reads rfl (.tmp 3) (.tmp 5) 54 rfl slice_u32 O1.out rfl (R1.out.alloc _) rfl HB.out (by simp) (by omega) (by unfold maxLen; omega) ?_
  intro v2 w2 hown2 k2 _
  rw [Nat.zero_add, List.nil_append] at hown2
  obtain ⟨A1', c1', rfl⟩ := own_shape hown2
  have k12 : Keep [] W w2 := (((Keep.refl [] W).alloc _).trans k2 (fun y hy h => by simp [Value.ownBlock] at hy; omega))
  have e0 := B0.out.keep0 k12
  have hf3 := e0.frozen 3
  have hc3 := e0.cell 3
  rw [show (refV d A1 A2 c1 c2).toArray[3]? = some (.slice A1 d.bits.length c1) from rfl] at hc3
  have hc4 := e0.cell 4
  have hf4 := e0.frozen 4
  rw [H4.out] at hc4
  have hs2 := k12.size
  have hs20 : w.heap.size < w2.heap.size := by omega
  have O2 : Hid (((w2.setCell ⟨w.heap.size, 3, none⟩ (.slice A1' d.bits.length c1')).alloc (.cells #[] 3)).ownsRow w2.heap.size 3 1 (.slice (some ⟨w2.heap.size, 0, none⟩) 0 0) 0 []) := by
    have := World.ownsRow_lit (base := w2.heap.size) (e := 3) (size := 1) (w2.setCell ⟨w.heap.size, 3, none⟩ (.slice A1' d.bits.length c1')) #[] 0 (by simp) (by decide) rfl
    simp at this
    exact this
  have E0 := Lib.hid e0
  have K12 := Lib.hid k12
  have D1 := Lib.hid (B1.out.keep0 k12)
  have OWN2 := Lib.hid hown2
  have R3 := Lib.hid (R2.out.keep0 (k1.then K12.out |>.setCell (p := ⟨w.heap.size, 3, none⟩) (by simp) (.slice A1' d.bits.length c1')))
  clear hown2 k2 e0 k12
  go_wp2_with (refine stop_at 11 rfl ?_)
  constructor
  refine wpList_append_reads rfl (.tmp 8) (.tmp 10) 55 rfl slice_int06 O2.out rfl (R3.out.alloc _) rfl HWs.out (by simp) (by omega) (by unfold maxLen; omega) ?_
  intro v3 w3 hown3 k3 _
  rw [Nat.zero_add, List.nil_append] at hown3
  obtain ⟨A2', c2', rfl⟩ := own_shape hown3
  have k23 : Keep [w.heap.size] w2 w3 := (((keep_set w2 w.heap.size 3 (.slice A1' d.bits.length c1')).alloc (.cells #[] 3)).trans k3 (fun y hy h => by simp [Value.ownBlock] at hy; omega))
  have q2 : Keep [] (w2.setCell ⟨w.heap.size, 3, none⟩ (.slice A1' d.bits.length c1')) w3 := (((Keep.refl [] _).alloc (.cells #[] 3)).trans k3 (fun y hy h => by simp [Value.ownBlock] at hy; simp at h; omega))
  have g0 := (E0.out.set_ 3 (.slice A1' d.bits.length c1')).keep0 q2
  have hgf4 := g0.frozen 4
  have hgc4 := g0.cell 4
  rw [show ((refV d A1 A2 c1 c2).toArray.setIfInBounds 3 (.slice A1' d.bits.length c1'))[4]? = some (.slice A2 d.worn.length c2) from rfl] at hgc4
  have G0 : Hid (Blk (w3.setCell ⟨w.heap.size, 4, none⟩ (.slice A2' d.worn.length c2')) w.heap.size 57 (refV d A1' A2' c1' c2').toArray) := Blk.cast (g0.set_ 4 (.slice A2' d.worn.length c2')) rfl
  have G1 := Lib.hid ((D1.out.keep k23 (by simp)).far (p := ⟨w.heap.size, 4, none⟩) (by simp) (.slice A2' d.worn.length c2'))
  have hblk2 : ∀ y, (Value.slice A1' d.bits.length c1').ownBlock = some y → y ∉ [w.heap.size] := fun y hy hm => by
    have := (OWN2.out.lt y hy).1
    simp at hm
    omega
  have hblk3 : ∀ y, (Value.slice A2' d.worn.length c2').ownBlock = some y → y ∉ [w.heap.size] := fun y hy hm => by
    have := (hown3.lt y hy).1
    simp at hm
    omega
  have OWN3 := Lib.hid hown3
  have F2 := Lib.hid (own_keep (own_keep OWN2.out k23 hblk2) (keep_set w3 w.heap.size 4 (.slice A2' d.worn.length c2')) hblk2)
  have F3 := Lib.hid (own_keep hown3 (keep_set w3 w.heap.size 4 (.slice A2' d.worn.length c2')) hblk3)
  have K3 : Hid (Keep [] w (w3.setCell ⟨w.heap.size, 4, none⟩ (.slice A2' d.worn.length c2'))) := (((k1.then K12.out).trans k23 (by simp))).setCell (by simp) _
  clear hown3 k3 k23 q2 g0 hblk2 hblk3
  go_wp2_with (first
    | (refine wpList_load_agg rfl 57 (.tmp 1) rfl rfl (cs := refV d A1' A2' c1' c2') HA.out ?_ ?_; exact G0.out.cellsAt)
    | (refine wpList_store_all rfl 57 (.tmp 2) (.tmp 13) rfl rfl rfl (t := 57) (cs := zeroD) (vs := refV d A1' A2' c1' c2') HA.out.2 ?_ (refV_one _ _ _ _ _) rfl ?_
       · exact G1.out
       intro w4 d1 k4))
  refine bodyPost_ret (results_blk rfl _ rfl d1 HA.out) rfl ⟨A1', A2', c1', c2', rfl, ?_, K3.out.trans k4 (by simp)⟩
  have hb2' : ∀ y, (Value.slice A1' d.bits.length c1').ownBlock = some y → y ∉ [w.heap.size + 1] := fun y hy hm => by
    have := (OWN2.out.lt y hy).1
    simp at hm
    omega
  have hb3' : ∀ y, (Value.slice A2' d.worn.length c2').ownBlock = some y → y ∉ [w.heap.size + 1] := fun y hy hm => by
    have := (OWN3.out.lt y hy).1
    simp at hm
    omega
  exact ⟨own_base (own_keep F2.out k4 hb2') (by omega), own_base (own_keep F3.out k4 hb3') (by omega)⟩
end Go.Proofs.Yteanpgkonhdbpaa
