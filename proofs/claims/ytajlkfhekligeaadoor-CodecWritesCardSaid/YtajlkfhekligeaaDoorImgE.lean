/- What image.Edge answers; may a task be, may queues be (the program's own). -/
import Derived.Test.YtajlkfhekligeaaDoorImgA
namespace Go.Proofs.YtajlkfhekligeaaDoor
open Go.RowKit

/-- Which edge goes from a mode to another one: the first. -/
def edgeIs (f t : Int) (_ : Nat) (e : Edg) : Bool := !(e.frm == f && e.to == t)
def edgeAt (es : List Edg) (f t : Int) : Option Nat := firstBad (edgeIs f t) 0 es
def edgeRes (r : Option Nat) : Value := match r with | some i => .tuple #[.int .i64 (i : Int), .bool true] | none => .tuple #[.int .i64 0, .bool false]
theorem edg_c (e : Edg) (j : Nat) (h : j < (edgInts e).length) : (edgCells e)[j]? = some (.int .i64 (edgInts e)[j]) := iv_get h

set_option maxRecDepth 100000 in
set_option maxHeartbeats 1000000 in
theorem edge_any (v : ImgV) (x : Img) (f t : Int) (w : World) (h : ImgAt w v x) :
    Calls Tryd.prog 110 #[.agg (imgCells v x).toArray, .int .i64 f, .int .i64 t] w fun e w' => e = .returned (edgeRes (edgeAt x.edges f t)) ∧ Keep [] w w' := by
  have hl := h.le
  unfold maxLen at hl
  have hb := img_box w v x
  have K0 := (Keep.refl [] w).alloc (.cells (imgCells v x).toArray 26)
  have c3 := img_c3 hb
  clear hb
  have he := h.edge
  have hof := Lib.hid h.ok
  generalize (imgCells v x).toArray = cs at *
  generalize hes : x.edges = es at *
  have HE := Lib.hid hes
  clear hes
  go_enter Tryd.func110, Tryd.ntmps110
  go_wp2
  go_loopw [13] (fun i wr => ∃ k : Nat, k ≤ es.length ∧ i = .int .i64 k ∧ firstBad (edgeIs f t) 0 (es.take k) = none ∧ Keep [] w wr) (fun i _ => es.length - (intOf i).toNat)
  case atStart => exact ⟨0, Nat.zero_le _, rfl, rfl, K0⟩
  case round =>
    clear K0
    obtain ⟨k, hk, rfl, hfb, hkeep⟩ := hrel
    by_cases hlt : k < es.length
    · obtain ⟨b, o, hA, hbl, hcs⟩ := he (by omega)
      have hA' := hA
      have hce := (hcs k hlt).keep0 hkeep hbl
      have hok := Lib.hid (firstBad_step (edgeIs f t) hlt hfb)
      have hat := Lib.hid (firstBad_at (edgeIs f t) hlt hfb)
      have hlen : (edgCells es[k]).length = 23 := edgCells_len (hof.out.offs _ (by rw [HE.out]; exact List.getElem_mem hlt)) (hof.out.mp _ (by rw [HE.out]; exact List.getElem_mem hlt))
      have HL := Lib.hid hlen
      have e0 := edg_c es[k] 0 (by simp [edgInts])
      have e1 := edg_c es[k] 1 (by simp [edgInts])
      simp only [edgInts, List.getElem_cons_zero, List.getElem_cons_succ] at e0 e1
      have hid : Hid (edgeIs f t k es[k] = !(es[k].frm == f && es[k].to == t)) := rfl
      have hone : ∀ u ∈ edgCells es[k], u.oneCell' = true := iv_one _
      clear hfb hcs
      generalize es[k] = e at *
      generalize edgCells e = ec at *
      rw [hA]
      have hcase : ((e.frm == f) = false ∧ edgeIs f t k e = true) ∨ ((e.frm == f) = true ∧ (e.to == t) = false ∧ edgeIs f t k e = true) ∨ ((e.frm == f) = true ∧ (e.to == t) = true ∧ edgeIs f t k e = false) := by
        rw [hid.out]
        cases (e.frm == f) <;> cases (e.to == t) <;> simp
      rcases hcase with ⟨h1, hi⟩ | ⟨h1, h2, hi⟩ | ⟨h1, h2, hi⟩
      all_goals
        have HI := Lib.hid hi
        clear hi
        go_wp2_with (first
          | (refine wpList_load_agg rfl 45 (.tmp 16) rfl rfl (cs := ec) (by rw [HL.out]; exact agg_edge) hce ?_)
          | (refine stop_store 45 (.tmp 9) (.tmp 17) rfl ?_))
        constructor
        refine wpList_store_all rfl 45 (.tmp 9) (.tmp 17) rfl rfl rfl (vs := ec) (by rw [HL.out]; exact agg_edge.2) (Blk.new _ _ _) hone (by rw [HL.out]; rfl) ?_
        intro w2 hb2 hk2
        have q0 := hb2.at_ e0
        have q1 := hb2.at_ e1
        have hk3 := (hkeep.alloc _).trans hk2 (fun y hy h => by simp at hy; have := hkeep.size; omega)
        clear hb2 hk2 hce
        go_wp2
      · go_roundw
        case rel => exact ⟨k + 1, by omega, by go_num, hok.out HI.out, hk3⟩
        case measure => simp [intOf] <;> omega
      · go_roundw
        case rel => exact ⟨k + 1, by omega, by go_num, hok.out HI.out, hk3⟩
        case measure => simp [intOf] <;> omega
      · have HR := Lib.hid (hat.out HI.out)
        go_ret2
        exact ⟨by unfold edgeAt; rw [HR.out]; rfl, hk3⟩
    · have hall := Lib.hid (firstBad_all (edgeIs f t) (by omega) hfb)
      go_wp2
      go_ret2
      exact ⟨by unfold edgeAt; rw [hall.out]; rfl, hkeep⟩
end Go.Proofs.YtajlkfhekligeaaDoor
