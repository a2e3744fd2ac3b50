/- What is told of an edge (cert.Cert's Edge); walked. Condition: a certificate of small numbers. -/
import Derived.Test.YteflgdnekflbbaaDoorCertF
namespace Go.Proofs.YteflgdnekflbbaaDoor
open Go.RowKit
attribute [local go_sem] Oper.semAt_some

/-- A certificate's edges in memory. -/
structure CrtE (w : World) (v : CrtV) (c : Crt) : Prop where
  edges : Reads w 2 v.ea c.edges.length (c.edges.flatMap spnCells)
  le : c.edges.length ≤ 100
theorem CrtAt.toE {w : World} {v : CrtV} {c : Crt} (h : CrtAt w v c) : CrtE w v c := ⟨h.edges, h.le⟩
theorem CrtE.keep0 {w w' : World} {v : CrtV} {c : Crt} (h : CrtE w v c) (k : Keep [] w w') : CrtE w' v c := ⟨h.edges.keep0 k, h.le⟩
/-- A box of slices is none of its blocks. -/
theorem CrtE.box {w w' : World} {v : CrtV} {c : Crt} {g t : Nat} (h : CrtE w v c) (hb : Blk w g t #[.slice none 0 0, .slice none 0 0]) (k : Keep [g] w w') : CrtE w' v c := by
  refine ⟨⟨h.edges.1, fun h0 => ?_⟩, h.le⟩
  obtain ⟨b, o, e, hbw, hc⟩ := h.edges.2 h0
  have hne : b ∉ [g] := by
    intro hm
    obtain rfl : b = g := by simpa using hm
    have h1 : ∃ z, (c.edges.flatMap spnCells)[0]? = some (.int .i64 z) := by
      generalize c.edges = l at h0
      cases l with
      | nil => simp at h0
      | cons s l => exact ⟨s.1, by simp [spnCells]⟩
    obtain ⟨z, h1⟩ := h1
    have h2 := hc 0 _ h1
    rw [hb.cell] at h2
    rcases o with _ | _ | o
    · simp at h2
    · simp at h2
    · simp at h2
  exact ⟨b, o, e, Nat.lt_of_lt_of_le hbw k.size, fun j u hu => (k.cell (p := ⟨b, o + j, none⟩) hbw hne).trans (hc j u hu)⟩
def edgeB (c : Crt) : Prop := ∀ s ∈ c.edges, (0 ≤ s.1 ∧ s.1 ≤ 536870912) ∧ 0 ≤ s.2 ∧ s.2 ≤ 536870912
set_option maxRecDepth 100000 in
set_option maxHeartbeats 2000000 in
theorem cedge_any (vc : CrtV) (c : Crt) (k : Nat) (w : World) (hc : CrtE w vc c) (hk : k < c.edges.length) :
    Calls Tryd.prog 30 #[.agg (crtCells vc c).toArray, .int .i64 (k : Int)] w fun e w' => e = .returned (.tuple #[.agg #[.int .i64 c.edges[k].1, .int .i64 c.edges[k].2], .bool true]) ∧ Keep [] w w' := by
  have hle := hc.le
  obtain ⟨W0, hW0⟩ : ∃ W0, (w.alloc (.cells (crtCells vc c).toArray 54)).alloc (.cells #[.int .i64 0, .int .i64 0] 58) = W0 := ⟨_, rfl⟩
  have b0 : Blk W0 w.heap.size 54 (crtCells vc c).toArray := by rw [← hW0]; exact (Blk.new _ _ _).alloc _
  have b1 : Blk W0 (w.heap.size + 1) 58 #[.int .i64 0, .int .i64 0] := by rw [← hW0]; exact Blk.new1 _ _ _ _
  have K0 : Keep [] w W0 := by rw [← hW0]; exact ((Keep.refl [] w).alloc _).alloc _
  have c1 : W0.cell? ⟨w.heap.size, 1, none⟩ = some (.slice vc.ea c.edges.length vc.ec) := by rw [b0.cell]; rfl
  obtain ⟨b, o, hA, hbw, hrc⟩ := hc.edges.elems rfl (fun _ _ => rfl) (by omega)
  rw [hA] at c1
  have hq : CellsAt W0 b (o + k * 2) [.int .i64 c.edges[k].1, .int .i64 c.edges[k].2] := CellsAt.keep0 (hrc k hk) K0 hbw
  have HQ := Lib.hid hq
  have B1 := Lib.hid b1
  have HW := Lib.hid hW0
  have HK0 := Lib.hid K0
  have q0 : decide ((k : Int) < 0) = false := decide_eq_false (by omega)
  have q1 : decide ((c.edges.length : Int) ≤ (k : Int)) = false := decide_eq_false (by omega)
  have q1n : decide (c.edges.length ≤ k) = false := decide_eq_false (by omega)
  have p0 : (0 : Int) ≤ (k : Int) := by omega
  have p1 : (k : Int) < (c.edges.length : Int) := by omega
  clear hc hrc hq K0 hW0 b0 b1
  generalize c.edges[k].1 = s1 at *
  generalize c.edges[k].2 = s2 at *
  generalize (crtCells vc c).toArray = cl at *
  go_enter Tryd.func30, Tryd.ntmps30
  go_wp2_with (first
    | rw [HW.out]
    | (refine wpList_load_agg rfl 58 (.tmp 19) rfl rfl (cs := [.int .i64 s1, .int .i64 s2]) agg_span HQ.out ?_)
    | (refine stop_store 58 (.tmp 4) (.tmp 20) rfl ?_))
  constructor
  refine wpList_store_all rfl 58 (.tmp 4) (.tmp 20) rfl rfl rfl (vs := [.int .i64 s1, .int .i64 s2]) agg_span.2 B1.out (by simp [Value.oneCell']) ?_ ?_
  · rfl
  intro wz dz kz
  go_wp2
  refine bodyPost_ret (results_cell_tmp rfl _ rfl rfl dz agg_span) rfl ?_
  exact ⟨rfl, HK0.out.trans kz (fun y hy hlt => by simp at hy; omega)⟩
end Go.Proofs.YteflgdnekflbbaaDoor
