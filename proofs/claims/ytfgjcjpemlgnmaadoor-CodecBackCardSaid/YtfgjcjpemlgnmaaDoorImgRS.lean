/- == of tasks, edges and queues; when two images are the same, stage by stage. No condition. Two images are the same: the document's answer. -/
import Derived.Test.YtfgjcjpemlgnmaaDoorImgP
import Derived.Test.YtfgjcjpemlgnmaaDoorImgRC
import Derived.Deep.DeepCutAuto
import Derived.Deep.LoopGhost
namespace Go.Proofs.YtfgjcjpemlgnmaaDoor
open Go.RowKit

theorem pI_int (d : Nat) : PartI Tryd.prog 3 1 (d + 1) := partI_int Tryd.underlying3
theorem pI_pol (d : Nat) : PartI Tryd.prog 63 1 (d + 1) := partI_int Tryd.underlying63
theorem pI_prot (d : Nat) : PartI Tryd.prog 66 1 (d + 1) := partI_int Tryd.underlying66
theorem pI_8 (d : Nat) : PartI Tryd.prog 55 8 (d + 2) := partI_agg (by rw [Tryd.underlying55]) (by kernel_rfl) (eqI_array Tryd.underlying55 Tryd.underlying3 (by kernel_rfl))
theorem pI_16 (d : Nat) : PartI Tryd.prog 67 16 (d + 2) := partI_agg (by rw [Tryd.underlying67]) (by kernel_rfl) (eqI_array Tryd.underlying67 Tryd.underlying3 (by kernel_rfl))
theorem pI_4 (d : Nat) : PartI Tryd.prog 68 4 (d + 2) := partI_agg (by rw [Tryd.underlying68]) (by kernel_rfl) (eqI_array Tryd.underlying68 Tryd.underlying3 (by kernel_rfl))
theorem eqI_task (d : Nat) : EqI Tryd.prog 57 11 (d + 3) :=
  eqI_struct Tryd.underlying57 (by kernel_rfl) ⟨by decide, rfl, 1, pI_int _, by decide, rfl, 1, pI_int _, by decide, rfl, 1, pI_int _, by decide, rfl, 8, pI_8 _, rfl⟩
theorem eqI_queue (d : Nat) : EqI Tryd.prog 65 2 (d + 2) :=
  eqI_struct Tryd.underlying65 (by kernel_rfl) ⟨by decide, rfl, 1, pI_int _, by decide, rfl, 1, pI_pol _, rfl⟩
theorem eqI_edge (d : Nat) : EqI Tryd.prog 70 23 (d + 3) :=
  eqI_struct Tryd.underlying70 (by kernel_rfl) ⟨by decide, rfl, 1, pI_int _, by decide, rfl, 1, pI_int _, by decide, rfl, 1, pI_prot _, by decide, rfl, 16, pI_16 _, by decide, rfl, 4, pI_4 _, rfl⟩

theorem tskInts_inj {a b : Tsk} : tskInts a = tskInts b ↔ a = b := by
  constructor
  · intro h
    obtain ⟨p, d, c, l⟩ := a
    obtain ⟨p', d', c', l'⟩ := b
    simp only [tskInts, List.cons.injEq] at h
    obtain ⟨rfl, rfl, rfl, rfl⟩ := h
    rfl
  · rintro rfl; rfl
theorem edgInts_inj {a b : Edg} (h : a.offs.length = 16) (h' : b.offs.length = 16) : edgInts a = edgInts b ↔ a = b := by
  constructor
  · intro e
    obtain ⟨p, d, c, l, m⟩ := a
    obtain ⟨p', d', c', l', m'⟩ := b
    simp only [edgInts, List.cons.injEq] at e h h'
    obtain ⟨rfl, rfl, rfl, e⟩ := e
    obtain ⟨rfl, rfl⟩ := List.append_inj e (by omega)
    rfl
  · rintro rfl; rfl
theorem queInts_inj {a b : Que} : queInts a = queInts b ↔ a = b := by
  constructor
  · intro h
    obtain ⟨p, d⟩ := a
    obtain ⟨p', d'⟩ := b
    simp only [queInts, List.cons.injEq] at h
    obtain ⟨rfl, rfl, _⟩ := h
    rfl
  · rintro rfl; rfl
theorem task_neq {a b : Tsk} (h : a.lon.length = 8) (h' : b.lon.length = 8) (w : World) : (binOp .neq 57 (.agg (tskCells a).toArray) (.agg (tskCells b).toArray)).run Tryd.prog w = .ok (.bool (!decide (a = b))) w := by
  have := run_neq_I (eqI_task 9997) (tskInts a) (tskInts b) (by simp [tskInts, h]) (by simp [tskInts, h']) w
  simp only [tskInts_inj] at this
  exact this
theorem edge_neq {a b : Edg} (h : a.offs.length = 16) (h' : b.offs.length = 16) (g : a.mp.length = 4) (g' : b.mp.length = 4) (w : World) : (binOp .neq 70 (.agg (edgCells a).toArray) (.agg (edgCells b).toArray)).run Tryd.prog w = .ok (.bool (!decide (a = b))) w := by
  have := run_neq_I (eqI_edge 9997) (edgInts a) (edgInts b) (by simp [edgInts, h, g]) (by simp [edgInts, h', g']) w
  simp only [edgInts_inj h h'] at this
  exact this
theorem queue_eql {a b : Que} (w : World) : (binOp .eql 65 (.agg (queCells a).toArray) (.agg (queCells b).toArray)).run Tryd.prog w = .ok (.bool (decide (a = b))) w := by
  have := run_eql_I (eqI_queue 9998) (queInts a) (queInts b) rfl rfl w
  simp only [queInts_inj] at this
  exact this
theorem queue_neq {a b : Que} (w : World) : (binOp .neq 65 (.agg (queCells a).toArray) (.agg (queCells b).toArray)).run Tryd.prog w = .ok (.bool (!decide (a = b))) w := by
  have := run_neq_I (eqI_queue 9998) (queInts a) (queInts b) rfl rfl w
  simp only [queInts_inj] at this
  exact this
theorem task_guard (x y : Operand) (u v : Array Value) (w : World) : (eqGuard .neq 57 x y (.agg u) (.agg v)).run Tryd.prog w = .ok () w := guard_neq_I (by kernel_rfl) x y u v w
theorem edge_guard (x y : Operand) (u v : Array Value) (w : World) : (eqGuard .neq 70 x y (.agg u) (.agg v)).run Tryd.prog w = .ok () w := guard_neq_I (by kernel_rfl) x y u v w
theorem queue_guard (x y : Operand) (u v : Array Value) (w : World) : (eqGuard .eql 65 x y (.agg u) (.agg v)).run Tryd.prog w = .ok () w := guard_eql_I (by kernel_rfl) x y u v w
theorem queue_guard' (x y : Operand) (u v : Array Value) (w : World) : (eqGuard .neq 65 x y (.agg u) (.agg v)).run Tryd.prog w = .ok () w := guard_neq_I (by kernel_rfl) x y u v w

theorem take_step {α : Type} {l m : List α} {k : Nat} (hk : k < l.length) (hk' : k < m.length) (h : l.take k = m.take k) (e : l[k] = m[k]) : l.take (k + 1) = m.take (k + 1) := by
  rw [List.take_succ_eq_append_getElem hk, List.take_succ_eq_append_getElem hk', h, e]
theorem img_ne_res {x y : Img} (h : x.res ≠ y.res) : decide (x = y) = false := by rw [decide_eq_false_iff_not]; rintro rfl; exact h rfl
theorem img_ne_tasks {x y : Img} (h : x.tasks ≠ y.tasks) : decide (x = y) = false := by rw [decide_eq_false_iff_not]; rintro rfl; exact h rfl
theorem img_ne_modes {x y : Img} (h : x.modes ≠ y.modes) : decide (x = y) = false := by rw [decide_eq_false_iff_not]; rintro rfl; exact h rfl
theorem img_ne_edges {x y : Img} (h : x.edges ≠ y.edges) : decide (x = y) = false := by rw [decide_eq_false_iff_not]; rintro rfl; exact h rfl
theorem img_eq {x y : Img} (h : x.res = y.res) (h1 : x.tasks = y.tasks) (h2 : x.modes = y.modes) (h3 : x.edges = y.edges) : decide (x = y) = true := by
  rw [decide_eq_true_eq]
  obtain ⟨a, b, c, d⟩ := x
  obtain ⟨a', b', c', d'⟩ := y
  simp only at h h1 h2 h3
  subst h; subst h1; subst h2; subst h3; rfl
theorem getElem_ne {α : Type} {l m : List α} {k : Nat} (hk : k < l.length) (hk' : k < m.length) (h : l[k] ≠ m[k]) : l ≠ m := by rintro rfl; exact h rfl
theorem take_all {α : Type} {l m : List α} {k : Nat} (hk : l.length ≤ k) (hk' : m.length ≤ k) (h : l.take k = m.take k) : l = m := by rwa [List.take_of_length_le hk, List.take_of_length_le hk'] at h
end Go.Proofs.YtfgjcjpemlgnmaaDoor

namespace Go.Proofs.YtfgjcjpemlgnmaaDoor
open Go.RowKit

set_option maxRecDepth 100000 in
set_option maxHeartbeats 4000000 in
theorem rsame_any (v v' : ImgV) (x y : Img) (w : World) (h : ImgAt w v x) (h' : ImgAt w v' y) :
    Calls Tryd.prog 14 #[.agg (imgCells v x).toArray, .agg (imgCells v' y).toArray] w fun e w' => e = .returned (.bool (decide (x = y))) ∧ Keep [] w w' := by
  have l1 := h.lt
  have l2 := h.lm
  have l3 := h.le
  have l4 := h'.lt
  have l5 := h'.lm
  have l6 := h'.le
  have lq := Lib.hid h.lq
  have lq' := Lib.hid h'.lq
  unfold maxLen at l1 l2 l3 l4 l5 l6
  have hb := (img_box w v x).alloc (.cells (imgCells v' y).toArray 26)
  have hb' : Blk ((w.alloc (.cells (imgCells v x).toArray 26)).alloc (.cells (imgCells v' y).toArray 26)) (w.heap.size + 1) 26 (imgCells v' y).toArray := Blk.new1 _ _ _ _
  have K0 := ((Keep.refl [] w).alloc (.cells (imgCells v x).toArray 26)).alloc (.cells (imgCells v' y).toArray 26)
  have a0 := img_c0 hb
  have a1 := img_c1 hb
  have a2 := img_c2 hb
  have a3 := img_c3 hb
  have p0 := img_c0 (img_box w v x)
  have p1 := img_c1 (img_box w v x)
  have p2 := img_c2 (img_box w v x)
  have p3 := img_c3 (img_box w v x)
  have b0 := img_c0 hb'
  have b1 := img_c1 hb'
  have b2 := img_c2 hb'
  have b3 := img_c3 hb'
  have ht := h.task
  have hm := h.mode
  have he := h.edge
  have ht' := h'.task
  have hm' := h'.mode
  have he' := h'.edge
  have hok := Lib.hid h.ok
  have hok' := Lib.hid h'.ok
  clear h h'
  have hlt := hb.lt
  have hlt' := hb'.lt
  have HF : Hid (∀ w', Keep [] ((w.alloc (.cells (imgCells v x).toArray 26)).alloc (.cells (imgCells v' y).toArray 26)) w' → w'.cell? ⟨w.heap.size, 1, none⟩ = some (.slice v.ta x.tasks.length v.tc) ∧ w'.cell? ⟨w.heap.size, 2, none⟩ = some (.slice v.ma x.modes.length v.mc) ∧
      w'.cell? ⟨w.heap.size, 3, none⟩ = some (.slice v.ea x.edges.length v.ec) ∧ w'.cell? ⟨w.heap.size + 1, 1, none⟩ = some (.slice v'.ta y.tasks.length v'.tc) ∧ w'.cell? ⟨w.heap.size + 1, 2, none⟩ = some (.slice v'.ma y.modes.length v'.mc) ∧
      w'.cell? ⟨w.heap.size + 1, 3, none⟩ = some (.slice v'.ea y.edges.length v'.ec)) := fun w' hw =>
    ⟨(hw.cell (p := ⟨w.heap.size, 1, none⟩) hlt (by simp)).trans a1, (hw.cell (p := ⟨w.heap.size, 2, none⟩) hlt (by simp)).trans a2, (hw.cell (p := ⟨w.heap.size, 3, none⟩) hlt (by simp)).trans a3,
      (hw.cell (p := ⟨w.heap.size + 1, 1, none⟩) hlt' (by simp)).trans b1, (hw.cell (p := ⟨w.heap.size + 1, 2, none⟩) hlt' (by simp)).trans b2, (hw.cell (p := ⟨w.heap.size + 1, 3, none⟩) hlt' (by simp)).trans b3⟩
  clear hb hb'
  generalize (imgCells v x).toArray = cs at *
  generalize (imgCells v' y).toArray = cs' at *
  have hN1 := Lib.hid (@img_ne_res x y)
  have hN2 := Lib.hid (@img_ne_tasks x y)
  have hN3 := Lib.hid (@img_ne_modes x y)
  have hN4 := Lib.hid (@img_ne_edges x y)
  have hEq := Lib.hid (@img_eq x y)
  generalize decide (x = y) = r at *
  have hcase : ((x.res != y.res) = true) ∨ ((x.res != y.res) = false ∧ x.tasks.length ≠ y.tasks.length) ∨ ((x.res != y.res) = false ∧ x.tasks.length = y.tasks.length ∧ x.modes.length ≠ y.modes.length) ∨
      ((x.res != y.res) = false ∧ x.tasks.length = y.tasks.length ∧ x.modes.length = y.modes.length ∧ x.edges.length ≠ y.edges.length) ∨
      ((x.res != y.res) = false ∧ x.tasks.length = y.tasks.length ∧ x.modes.length = y.modes.length ∧ x.edges.length = y.edges.length) := by
    cases (x.res != y.res) <;> simp <;> omega
  rcases hcase with g1 | ⟨g1, g2⟩ | ⟨g1, g2, g3⟩ | ⟨g1, g2, g3, g4⟩ | ⟨g1, g2, g3, g4⟩
  -- DEV 4x1
  · have HR := Lib.hid (hN1.out (by simpa using g1))
    go_enter Tryd.func14, Tryd.ntmps14
    go_wp2
    go_ret
    exact ⟨by rw [HR.out]; rfl, K0⟩
  · have HR := Lib.hid (hN2.out (fun e => g2 (by rw [e])))
    have q2 : ((x.tasks.length : Int) != (y.tasks.length : Int)) = true := by simp; omega
    have q2' : (x.tasks.length != y.tasks.length) = true := by simp; omega
    clear g2
    go_enter Tryd.func14, Tryd.ntmps14
    go_wp2
    go_ret
    exact ⟨by rw [HR.out]; rfl, K0⟩
  · have HR := Lib.hid (hN3.out (fun e => g3 (by rw [e])))
    have q2 : ((x.tasks.length : Int) != (y.tasks.length : Int)) = false := by simp; omega
    have q2' : (x.tasks.length != y.tasks.length) = false := by simp; omega
    have q3 : ((x.modes.length : Int) != (y.modes.length : Int)) = true := by simp; omega
    have q3' : (x.modes.length != y.modes.length) = true := by simp; omega
    clear g2 g3
    go_enter Tryd.func14, Tryd.ntmps14
    go_wp2
    go_ret
    exact ⟨by rw [HR.out]; rfl, K0⟩
  · have HR := Lib.hid (hN4.out (fun e => g4 (by rw [e])))
    have q2 : ((x.tasks.length : Int) != (y.tasks.length : Int)) = false := by simp; omega
    have q2' : (x.tasks.length != y.tasks.length) = false := by simp; omega
    have q3 : ((x.modes.length : Int) != (y.modes.length : Int)) = false := by simp; omega
    have q3' : (x.modes.length != y.modes.length) = false := by simp; omega
    have q4 : ((x.edges.length : Int) != (y.edges.length : Int)) = true := by simp; omega
    have q4' : (x.edges.length != y.edges.length) = true := by simp; omega
    clear g2 g3 g4
    go_enter Tryd.func14, Tryd.ntmps14
    go_wp2
    go_ret
    exact ⟨by rw [HR.out]; rfl, K0⟩
  -- END 4x1
  have HL1 := Lib.hid g2
  have HL2 := Lib.hid g3
  have HL3 := Lib.hid g4
  have HXR : Hid (x.res = y.res) := by show _ = _; simpa using g1
  have q2 : ((x.tasks.length : Int) != (y.tasks.length : Int)) = false := by simp; omega
  have q2' : (x.tasks.length != y.tasks.length) = false := by simp; omega
  have q3 : ((x.modes.length : Int) != (y.modes.length : Int)) = false := by simp; omega
  have q3' : (x.modes.length != y.modes.length) = false := by simp; omega
  have q4 : ((x.edges.length : Int) != (y.edges.length : Int)) = false := by simp; omega
  have q4' : (x.edges.length != y.edges.length) = false := by simp; omega
  clear g2 g3 g4 hN1
  go_enter Tryd.func14, Tryd.ntmps14
  obtain ⟨W0, hW0⟩ : ∃ W0, (w.alloc (.cells cs 26)).alloc (.cells cs' 26) = W0 := ⟨_, rfl⟩
  rw [hW0] at HF K0 a0 a1 a2 a3 b0 b1 b2 b3
  clear p0 p1 p2 p3 hlt hlt'
  go_wp2
  clear q2 q2' q3 q3' q4 q4'
  clear hW0 a0 b0
  go_loopw [5] (fun i wr => ∃ k : Nat, k ≤ x.tasks.length ∧ i = .int .i64 k ∧ x.tasks.take k = y.tasks.take k ∧ Keep [] W0 wr) (fun i _ => x.tasks.length - (intOf i).toNat)
  case atStart => exact ⟨0, Nat.zero_le _, rfl, rfl, Keep.refl _ _⟩
  case round =>
    clear a1 a2 a3 b1 b2 b3
    obtain ⟨k, hk, rfl, heq, hkeep⟩ := hrel
    by_cases hlk : k < x.tasks.length
    · have hlk' : k < y.tasks.length := by have := HL1.out; omega
      obtain ⟨bt, ot, hA, hbt, hts⟩ := ht (by omega)
      obtain ⟨bt', ot', hA', hbt', hts'⟩ := ht' (by omega)
      have KW := K0.trans hkeep (by simp)
      have hc : Hid (∀ w', Keep [] wr w' → CellsAt w' bt (ot + k * 11) (tskCells x.tasks[k])) := fun w' hw => (hts k hlk).keep0 (KW.then hw) hbt
      have hc' : Hid (∀ w', Keep [] wr w' → CellsAt w' bt' (ot' + k * 11) (tskCells y.tasks[k])) := fun w' hw => (hts' k hlk').keep0 (KW.then hw) hbt'
      have hl8 : x.tasks[k].lon.length = 8 := hok.out.lon _ (List.getElem_mem hlk)
      have hl8' : y.tasks[k].lon.length = 8 := hok'.out.lon _ (List.getElem_mem hlk')
      have HL : Hid ((tskCells x.tasks[k]).length = 11) := show _ = _ from tskCells_len hl8
      have HL' : Hid ((tskCells y.tasks[k]).length = 11) := show _ = _ from tskCells_len hl8'
      have hneq := fun W => task_neq hl8 hl8' W
      have hgd := fun a b W => task_guard a b (tskCells x.tasks[k]).toArray (tskCells y.tasks[k]).toArray W
      have hst : Hid (x.tasks[k] = y.tasks[k] → x.tasks.take (k + 1) = y.tasks.take (k + 1)) := take_step hlk hlk' heq
      have hno : Hid (x.tasks[k] ≠ y.tasks[k] → r = false) := fun hne => hN2.out (getElem_ne hlk hlk' hne)
      have hF : ∀ w', Keep [] wr w' → w'.cell? ⟨w.heap.size, 1, none⟩ = some (.slice (some ⟨bt, ot, none⟩) x.tasks.length v.tc) ∧ w'.cell? ⟨w.heap.size + 1, 1, none⟩ = some (.slice (some ⟨bt', ot', none⟩) y.tasks.length v'.tc) := fun w' hw => by
        obtain ⟨f1, f2, f3, f4, f5, f6⟩ := HF.out w' (hkeep.then hw)
        rw [hA] at f1
        rw [hA'] at f4
        exact ⟨f1, f4⟩
      have k0 : (0 : Int) ≤ (k : Int) := by omega
      have k1 : (k : Int) < x.tasks.length := by omega
      have k2 : (k : Int) < y.tasks.length := by omega
      clear ht ht' hts hts' hl8 hl8' heq
      generalize hxk : x.tasks[k] = t at *
      generalize hyk : y.tasks[k] = t' at *
      clear hxk hyk
      obtain ⟨f1, f4⟩ := hF wr (Keep.refl _ _)
      by_cases hqq : t = t'
      · have HS := Lib.hid (hst.out hqq)
        have hd : (!decide (t = t')) = false := by simp [hqq]
        rw [hd] at hneq
        clear hqq hd
        generalize tskCells t = tc at *
        generalize tskCells t' = tc' at *
        go_wp2
        refine wp_region_flow (Keep [] wr) rfl (by kernel_rfl) (Keep.refl _ _).drew ?_
        repeat (refine fl_val (v := ?_) (by rfl) ?_ ?_; rotate_left; (intro w' hS; obtain ⟨f1,f2⟩ := hF w' hS; go_simp; with_reducible rfl); simp only [Act.put, List.setIfInBounds_toArray, List.set_cons_zero, List.set_cons_succ])
        refine fl_agg 57 (.tmp 53) tc rfl rfl rfl (by rw [HL.out]; exact agg_task) (fun w' hw => hc.out w' hw) ?_
        simp only [Act.put, List.setIfInBounds_toArray, List.set_cons_zero, List.set_cons_succ]
        repeat (refine fl_val (v := ?_) (by rfl) ?_ ?_; rotate_left; (intro w' hS; obtain ⟨f1,f2⟩ := hF w' hS; go_simp; with_reducible rfl); simp only [Act.put, List.setIfInBounds_toArray, List.set_cons_zero, List.set_cons_succ])
        refine fl_agg 57 (.tmp 58) tc' rfl rfl rfl (by rw [HL'.out]; exact agg_task) (fun w' hw => hc'.out w' hw) ?_
        simp only [Act.put, List.setIfInBounds_toArray, List.set_cons_zero, List.set_cons_succ]
        repeat (refine fl_val (v := ?_) (by rfl) ?_ ?_; rotate_left; (intro w' hS; obtain ⟨f1,f2⟩ := hF w' hS; go_simp; with_reducible rfl); simp only [Act.put, List.setIfInBounds_toArray, List.set_cons_zero, List.set_cons_succ])
        refine fl_nil ?_
        intro w4 hS
        go_wp2
        go_roundw
        case rel => exact ⟨k + 1, by omega, by go_num, HS.out, hkeep.then hS⟩
        case measure => simp [intOf] <;> omega
      · have HR := Lib.hid (hno.out hqq)
        have hd : (!decide (t = t')) = true := by simp [hqq]
        rw [hd] at hneq
        clear hqq hd
        generalize tskCells t = tc at *
        generalize tskCells t' = tc' at *
        go_wp2
        refine wp_region_flow (Keep [] wr) rfl (by kernel_rfl) (Keep.refl _ _).drew ?_
        repeat (refine fl_val (v := ?_) (by rfl) ?_ ?_; rotate_left; (intro w' hS; obtain ⟨f1,f2⟩ := hF w' hS; go_simp; with_reducible rfl); simp only [Act.put, List.setIfInBounds_toArray, List.set_cons_zero, List.set_cons_succ])
        refine fl_agg 57 (.tmp 53) tc rfl rfl rfl (by rw [HL.out]; exact agg_task) (fun w' hw => hc.out w' hw) ?_
        simp only [Act.put, List.setIfInBounds_toArray, List.set_cons_zero, List.set_cons_succ]
        repeat (refine fl_val (v := ?_) (by rfl) ?_ ?_; rotate_left; (intro w' hS; obtain ⟨f1,f2⟩ := hF w' hS; go_simp; with_reducible rfl); simp only [Act.put, List.setIfInBounds_toArray, List.set_cons_zero, List.set_cons_succ])
        refine fl_agg 57 (.tmp 58) tc' rfl rfl rfl (by rw [HL'.out]; exact agg_task) (fun w' hw => hc'.out w' hw) ?_
        simp only [Act.put, List.setIfInBounds_toArray, List.set_cons_zero, List.set_cons_succ]
        repeat (refine fl_val (v := ?_) (by rfl) ?_ ?_; rotate_left; (intro w' hS; obtain ⟨f1,f2⟩ := hF w' hS; go_simp; with_reducible rfl); simp only [Act.put, List.setIfInBounds_toArray, List.set_cons_zero, List.set_cons_succ])
        refine fl_nil ?_
        intro w4 hS
        go_wp2
        go_ret
        exact ⟨by rw [HR.out]; rfl, KW.then hS⟩
    · have HT := Lib.hid (take_all (by omega) (by have := HL1.out; omega) heq)
      clear heq ht ht' hN2
      obtain ⟨f1, f2, f3, f4, f5, f6⟩ := HF.out wr hkeep
      obtain ⟨ws, hws⟩ : ∃ ws : World, ws = wr := ⟨_, rfl⟩
      subst hws
      go_wp2
      go_loopw [6] (fun i wr => ∃ k : Nat, k ≤ x.edges.length ∧ i = .int .i64 k ∧ x.edges.take k = y.edges.take k ∧ Keep [] W0 wr) (fun i _ => x.edges.length - (intOf i).toNat)
      case atStart => exact ⟨0, Nat.zero_le _, rfl, rfl, hkeep⟩
      case round =>
        clear f1 f2 f3 f4 f5 f6 hkeep
        obtain ⟨k, hk, rfl, heq, hkeep⟩ := hrel
        obtain ⟨f1, f2, f3, f4, f5, f6⟩ := HF.out wr hkeep
        by_cases hlk : k < x.edges.length
        · have hlk' : k < y.edges.length := by have := HL3.out; omega
          obtain ⟨bt, ot, hA, hbt, hts⟩ := he (by omega)
          obtain ⟨bt', ot', hA', hbt', hts'⟩ := he' (by omega)
          have KW := K0.trans hkeep (by simp)
          have hc : Hid (∀ w', Keep [] wr w' → CellsAt w' bt (ot + k * 23) (edgCells x.edges[k])) := fun w' hw => (hts k hlk).keep0 (KW.then hw) hbt
          have hc' : Hid (∀ w', Keep [] wr w' → CellsAt w' bt' (ot' + k * 23) (edgCells y.edges[k])) := fun w' hw => (hts' k hlk').keep0 (KW.then hw) hbt'
          have ho := hok.out.offs _ (List.getElem_mem hlk)
          have ho' := hok'.out.offs _ (List.getElem_mem hlk')
          have hp := hok.out.mp _ (List.getElem_mem hlk)
          have hp' := hok'.out.mp _ (List.getElem_mem hlk')
          have HL : Hid ((edgCells x.edges[k]).length = 23) := show _ = _ from edgCells_len ho hp
          have HL' : Hid ((edgCells y.edges[k]).length = 23) := show _ = _ from edgCells_len ho' hp'
          have hneq := fun W => edge_neq ho ho' hp hp' W
          have hgd := fun a b W => edge_guard a b (edgCells x.edges[k]).toArray (edgCells y.edges[k]).toArray W
          have hst : Hid (x.edges[k] = y.edges[k] → x.edges.take (k + 1) = y.edges.take (k + 1)) := take_step hlk hlk' heq
          have hno : Hid (x.edges[k] ≠ y.edges[k] → r = false) := fun hne => hN4.out (getElem_ne hlk hlk' hne)
          have hF : ∀ w', Keep [] wr w' → w'.cell? ⟨w.heap.size, 3, none⟩ = some (.slice (some ⟨bt, ot, none⟩) x.edges.length v.ec) ∧ w'.cell? ⟨w.heap.size + 1, 3, none⟩ = some (.slice (some ⟨bt', ot', none⟩) y.edges.length v'.ec) := fun w' hw => by
            obtain ⟨f1, f2, f3, f4, f5, f6⟩ := HF.out w' (hkeep.then hw)
            rw [hA] at f3
            rw [hA'] at f6
            exact ⟨f3, f6⟩
          have k0 : (0 : Int) ≤ (k : Int) := by omega
          have k1 : (k : Int) < x.edges.length := by omega
          have k2 : (k : Int) < y.edges.length := by omega
          clear he he' hts hts' ho ho' hp hp' heq f1 f2 f4 f5
          generalize hxk : x.edges[k] = t at *
          generalize hyk : y.edges[k] = t' at *
          clear hxk hyk
          by_cases hqq : t = t'
          · have HS := Lib.hid (hst.out hqq)
            have hd : (!decide (t = t')) = false := by simp [hqq]
            rw [hd] at hneq
            clear hqq hd
            generalize edgCells t = tc at *
            generalize edgCells t' = tc' at *
            have HAA := Lib.hid hA
            have HAA' := Lib.hid hA'
            clear hA hA'
            go_wp2
            refine wp_region_flow (Keep [] wr) rfl (by kernel_rfl) (Keep.refl _ _).drew ?_
            repeat (refine fl_val (v := ?_) (by rfl) ?_ ?_; rotate_left; (intro w' hS; obtain ⟨f1,f2⟩ := hF w' hS; go_simp; with_reducible rfl); simp only [Act.put, List.setIfInBounds_toArray, List.set_cons_zero, List.set_cons_succ])
            refine fl_agg 70 (.tmp 71) tc rfl rfl rfl (by rw [HL.out]; exact agg_edge) (fun w' hw => hc.out w' hw) ?_
            simp only [Act.put, List.setIfInBounds_toArray, List.set_cons_zero, List.set_cons_succ]
            repeat (refine fl_val (v := ?_) (by rfl) ?_ ?_; rotate_left; (intro w' hS; obtain ⟨f1,f2⟩ := hF w' hS; go_simp; with_reducible rfl); simp only [Act.put, List.setIfInBounds_toArray, List.set_cons_zero, List.set_cons_succ])
            refine fl_agg 70 (.tmp 76) tc' rfl rfl rfl (by rw [HL'.out]; exact agg_edge) (fun w' hw => hc'.out w' hw) ?_
            simp only [Act.put, List.setIfInBounds_toArray, List.set_cons_zero, List.set_cons_succ]
            repeat (refine fl_val (v := ?_) (by rfl) ?_ ?_; rotate_left; (intro w' hS; obtain ⟨f1,f2⟩ := hF w' hS; go_simp; with_reducible rfl); simp only [Act.put, List.setIfInBounds_toArray, List.set_cons_zero, List.set_cons_succ])
            refine fl_nil ?_
            intro w4 hS
            have hrel4 : Hid (Keep [] W0 w4) := hkeep.then hS
            go_wp2
            go_roundw
            case rel => exact ⟨k + 1, by omega, by go_num, HS.out, hrel4.out⟩
            case measure => simp [intOf] <;> omega
          · have HR := Lib.hid (hno.out hqq)
            have hd : (!decide (t = t')) = true := by simp [hqq]
            rw [hd] at hneq
            clear hqq hd
            generalize edgCells t = tc at *
            generalize edgCells t' = tc' at *
            go_wp2
            refine wp_region_flow (Keep [] wr) rfl (by kernel_rfl) (Keep.refl _ _).drew ?_
            repeat (refine fl_val (v := ?_) (by rfl) ?_ ?_; rotate_left; (intro w' hS; obtain ⟨f1,f2⟩ := hF w' hS; go_simp; with_reducible rfl); simp only [Act.put, List.setIfInBounds_toArray, List.set_cons_zero, List.set_cons_succ])
            refine fl_agg 70 (.tmp 71) tc rfl rfl rfl (by rw [HL.out]; exact agg_edge) (fun w' hw => hc.out w' hw) ?_
            simp only [Act.put, List.setIfInBounds_toArray, List.set_cons_zero, List.set_cons_succ]
            repeat (refine fl_val (v := ?_) (by rfl) ?_ ?_; rotate_left; (intro w' hS; obtain ⟨f1,f2⟩ := hF w' hS; go_simp; with_reducible rfl); simp only [Act.put, List.setIfInBounds_toArray, List.set_cons_zero, List.set_cons_succ])
            refine fl_agg 70 (.tmp 76) tc' rfl rfl rfl (by rw [HL'.out]; exact agg_edge) (fun w' hw => hc'.out w' hw) ?_
            simp only [Act.put, List.setIfInBounds_toArray, List.set_cons_zero, List.set_cons_succ]
            repeat (refine fl_val (v := ?_) (by rfl) ?_ ?_; rotate_left; (intro w' hS; obtain ⟨f1,f2⟩ := hF w' hS; go_simp; with_reducible rfl); simp only [Act.put, List.setIfInBounds_toArray, List.set_cons_zero, List.set_cons_succ])
            refine fl_nil ?_
            intro w4 hS
            have hrel4 : Hid (Keep [] w w4) := KW.then hS
            go_wp2
            go_ret
            exact ⟨by rw [HR.out]; rfl, hrel4.out⟩
        · have HE := Lib.hid (take_all (by omega) (by have := HL3.out; omega) heq)
          clear heq he he' hN4
          obtain ⟨wp, hwp⟩ : ∃ wp : World, wp = wr := ⟨_, rfl⟩
          subst hwp
          go_wp2
          go_loopg [7] x.modes.length (fun gk i wr => ∃ k : Nat, k + gk = x.modes.length ∧ i = .int .i64 k ∧ x.modes.take k = y.modes.take k ∧ Keep [] W0 wr)
          case atStart => exact ⟨0, by omega, rfl, rfl, hkeep⟩
          case round =>
            clear f1 f2 f3 f4 f5 f6 hkeep
            obtain ⟨k, hk, rfl, heq, hkeep⟩ := hrel
            obtain ⟨f1, f2, f3, f4, f5, f6⟩ := HF.out wr hkeep
            have HK := Lib.hid hk
            have hk9 : k ≤ x.modes.length := by omega
            clear hk
            by_cases hlk : k < x.modes.length
            · have hlk' : k < y.modes.length := by have := HL2.out; omega
              obtain ⟨bm, om, hA, hbm, hms⟩ := hm (by omega)
              obtain ⟨bm', om', hA', hbm', hms'⟩ := hm' (by omega)
              obtain ⟨Aq, cq, hmc, hqs⟩ := hms k hlk
              obtain ⟨Aq', cq', hmc', hqs'⟩ := hms' k hlk'
              have KW := K0.trans hkeep (by simp)
              have hst : Hid (x.modes[k] = y.modes[k] → x.modes.take (k + 1) = y.modes.take (k + 1)) := take_step hlk hlk' heq
              have hno : Hid (x.modes[k] ≠ y.modes[k] → r = false) := fun hne => hN3.out (getElem_ne hlk hlk' hne)
              have lqk := lq.out _ (List.getElem_mem hlk)
              have lqk' := lq'.out _ (List.getElem_mem hlk')
              unfold maxLen at lqk lqk'
              have heA := hqs.elems rfl (fun q _ => rfl)
              have heA' := hqs'.elems rfl (fun q _ => rfl)
              clear hms hms' hqs hqs' heq
              have hme : Hid (x.modes[k] = y.modes[k] ↔ (x.modes[k].set = y.modes[k].set ∧ x.modes[k].qs = y.modes[k].qs)) := by
                constructor
                · intro e; rw [e]; exact ⟨rfl, rfl⟩
                · intro ⟨e1, e2⟩
                  generalize x.modes[k] = a at *
                  generalize y.modes[k] = b at *
                  obtain ⟨a1, a2⟩ := a
                  obtain ⟨b1, b2⟩ := b
                  simp only at e1 e2
                  rw [e1, e2]
              generalize x.modes[k] = m at *
              generalize y.modes[k] = m' at *
              generalize m.set = sx at *
              generalize m'.set = sy at *
              generalize m.qs = qx at *
              generalize m'.qs = qy at *
              have k2 : (k : Int) < y.modes.length := by omega
              have k1 : (k : Int) < x.modes.length := by omega
              have k0 : (0 : Int) ≤ (k : Int) := by omega
              obtain ⟨wo, hwo⟩ : ∃ wo : World, wo = wr := ⟨_, rfl⟩
              subst hwo
              obtain ⟨og, hog⟩ : ∃ og, og = gk := ⟨_, rfl⟩
              subst hog
              have hG : Hid (∀ w', Keep [] wo w' → w'.cell? ⟨w.heap.size, 2, none⟩ = some (.slice (some ⟨bm, om, none⟩) x.modes.length v.mc) ∧ w'.cell? ⟨w.heap.size + 1, 2, none⟩ = some (.slice (some ⟨bm', om', none⟩) y.modes.length v'.mc) ∧
                  w'.cell? ⟨bm, om + k * 2, none⟩ = some (.int .u32 sx) ∧ w'.cell? ⟨bm, om + k * 2 + 1, none⟩ = some (.slice Aq qx.length cq) ∧ w'.cell? ⟨bm', om' + k * 2, none⟩ = some (.int .u32 sy) ∧ w'.cell? ⟨bm', om' + k * 2 + 1, none⟩ = some (.slice Aq' qy.length cq')) := fun w' hw => by
                obtain ⟨f1, f2, f3, f4, f5, f6⟩ := HF.out w' (hkeep.then hw)
                have KV := KW.then hw
                rw [hA] at f2
                rw [hA'] at f5
                exact ⟨f2, f5, (KV.cell (p := ⟨bm, om + k * 2, none⟩) hbm (by simp)).trans (hmc 0 _ rfl), (KV.cell (p := ⟨bm, om + k * 2 + 1, none⟩) hbm (by simp)).trans (hmc 1 _ rfl),
                  (KV.cell (p := ⟨bm', om' + k * 2, none⟩) hbm' (by simp)).trans (hmc' 0 _ rfl), (KV.cell (p := ⟨bm', om' + k * 2 + 1, none⟩) hbm' (by simp)).trans (hmc' 1 _ rfl)⟩
              have HAA := Lib.hid hA
              have HAA' := Lib.hid hA'
              clear hmc hmc' hA hA'
              go_upto_region 16 with fail
              clear f1 f2 f3 f4 f5 f6
              go_cut [8, 9] (fun p8 p9 wx => TwoModes wo sx sy Aq Aq' qx.length qy.length cq cq' p8 p9 wx)
              case first =>
                refine wp_region_held_drew (S := Keep [] wo) (by kernel_rfl) (Keep.refl _ _).drew (fun hS => ?_)
                (refine ah_take (v := ?_) 0 rfl (by kernel_rfl) (by kernel_rfl) (by kernel_rfl) (fun _ _ _ h => h) ?_ hS ?_; rotate_left; (intro w' hSw; obtain ⟨f1,f2,f3,f4,f5,f6⟩ := hG.out w' hSw; go_simp; with_reducible rfl); simp only [Act.put, List.setIfInBounds_toArray, List.set_cons_zero, List.set_cons_succ])
                (refine ah_take (v := ?_) 1 rfl (by kernel_rfl) (by kernel_rfl) (by kernel_rfl) (fun _ _ _ h => h) ?_ hS ?_; rotate_left; (intro w' hSw; obtain ⟨f1,f2,f3,f4,f5,f6⟩ := hG.out w' hSw; go_simp; with_reducible rfl); simp only [Act.put, List.setIfInBounds_toArray, List.set_cons_zero, List.set_cons_succ])
                (refine ah_take (v := ?_) 2 rfl (by kernel_rfl) (by kernel_rfl) (by kernel_rfl) (fun _ _ _ h => h) ?_ hS ?_; rotate_left; (intro w' hSw; obtain ⟨f1,f2,f3,f4,f5,f6⟩ := hG.out w' hSw; go_simp; with_reducible rfl); simp only [Act.put, List.setIfInBounds_toArray, List.set_cons_zero, List.set_cons_succ])
                (refine ah_take (v := ?_) 3 rfl (by kernel_rfl) (by kernel_rfl) (by kernel_rfl) (fun _ _ _ h => h) ?_ hS ?_; rotate_left; (intro w' hSw; obtain ⟨f1,f2,f3,f4,f5,f6⟩ := hG.out w' hSw; go_simp; with_reducible rfl); simp only [Act.put, List.setIfInBounds_toArray, List.set_cons_zero, List.set_cons_succ])
                (refine ah_take (v := ?_) 4 rfl (by kernel_rfl) (by kernel_rfl) (by kernel_rfl) (fun _ _ _ h => h) ?_ hS ?_; rotate_left; (intro w' hSw; obtain ⟨f1,f2,f3,f4,f5,f6⟩ := hG.out w' hSw; go_simp; with_reducible rfl); simp only [Act.put, List.setIfInBounds_toArray, List.set_cons_zero, List.set_cons_succ])
                (refine ah_take (v := ?_) 5 rfl (by kernel_rfl) (by kernel_rfl) (by kernel_rfl) (fun _ _ _ h => h) ?_ hS ?_; rotate_left; (intro w' hSw; obtain ⟨f1,f2,f3,f4,f5,f6⟩ := hG.out w' hSw; go_simp; with_reducible rfl); simp only [Act.put, List.setIfInBounds_toArray, List.set_cons_zero, List.set_cons_succ])
                (refine ah_take (v := ?_) 6 rfl (by kernel_rfl) (by kernel_rfl) (by kernel_rfl) (fun _ _ _ h => h) ?_ hS ?_; rotate_left; (intro w' hSw; obtain ⟨f1,f2,f3,f4,f5,f6⟩ := hG.out w' hSw; go_simp; with_reducible rfl); simp only [Act.put, List.setIfInBounds_toArray, List.set_cons_zero, List.set_cons_succ])
                (refine ah_take (v := ?_) 7 rfl (by kernel_rfl) (by kernel_rfl) (by kernel_rfl) (fun _ _ _ h => h) ?_ hS ?_; rotate_left; (intro w' hSw; obtain ⟨f1,f2,f3,f4,f5,f6⟩ := hG.out w' hSw; go_simp; with_reducible rfl); simp only [Act.put, List.setIfInBounds_toArray, List.set_cons_zero, List.set_cons_succ])
                (refine ah_take (v := ?_) 8 rfl (by kernel_rfl) (by kernel_rfl) (by kernel_rfl) (fun _ _ _ h => h) ?_ hS ?_; rotate_left; (intro w' hSw; obtain ⟨f1,f2,f3,f4,f5,f6⟩ := hG.out w' hSw; go_simp; with_reducible rfl); simp only [Act.put, List.setIfInBounds_toArray, List.set_cons_zero, List.set_cons_succ])
                (refine ah_take (v := ?_) 9 rfl (by kernel_rfl) (by kernel_rfl) (by kernel_rfl) (fun _ _ _ h => h) ?_ hS ?_; rotate_left; (intro w' hSw; obtain ⟨f1,f2,f3,f4,f5,f6⟩ := hG.out w' hSw; go_simp; with_reducible rfl); simp only [Act.put, List.setIfInBounds_toArray, List.set_cons_zero, List.set_cons_succ])
                have hz1 : ∀ (u : Int) (A : Option Addr) (n c : Nat), ∀ y, y ∈ [Value.int .u32 u, .slice A n c] → y.oneCell' = true := by intro u A n c y hy; simp at hy; rcases hy with rfl | rfl <;> rfl
                have kA := (Keep.refl [] wo).drew.alloc (.cells #[.int .u32 0, .slice none 0 0] 47)
                have kB := kA.alloc (.cells #[.int .u32 0, .slice none 0 0] 47)
                have b7 := (Blk.new wo.drew 47 #[.int .u32 0, .slice none 0 0]).alloc (.cells #[.int .u32 0, .slice none 0 0] 47)
                have b8 := Blk.new1 wo.drew (.cells #[.int .u32 0, .slice none 0 0] 47) 47 #[.int .u32 0, .slice none 0 0]
                have hne : wo.drew.heap.size ≠ wo.drew.heap.size + 1 := by omega
                refine ah_two 10 11 (by kernel_rfl) ?_ ?_
                · refine oph_run (v := .pointer (some ⟨wo.heap.size, 0, none⟩)) (w' := wo.drew.alloc (.cells #[.int .u32 0, .slice none 0 0] 47)) 10 rfl (by go_simp) kA ?_
                  (simp only [Act.put, List.setIfInBounds_toArray, List.set_cons_zero, List.set_cons_succ])
                  refine ah_one 11 (by kernel_rfl) ?_
                  refine oph_run (v := .pointer (some ⟨wo.heap.size + 1, 0, none⟩)) (w' := (wo.drew.alloc (.cells #[.int .u32 0, .slice none 0 0] 47)).alloc (.cells #[.int .u32 0, .slice none 0 0] 47)) 11 rfl (by go_simp) kB ?_
                  (simp only [Act.put, List.setIfInBounds_toArray, List.set_cons_zero, List.set_cons_succ])
                  refine ah_store (vs := [.int .u32 sx, .slice Aq qx.length cq]) 12 rfl (by kernel_rfl) rfl rfl (by kernel_rfl) b7 (hz1 _ _ _ _) rfl ?_
                  intro w5 d7 k5
                  have kC := kB.trans k5 (fun y hy h => by simp at hy h; omega)
                  refine ⟨kC, ?_⟩
                  (simp only [Act.put])
                  refine ah_store (vs := [.int .u32 sy, .slice Aq' qy.length cq']) 13 rfl (by kernel_rfl) rfl rfl (by kernel_rfl) (b8.keep k5 (by simp)) (hz1 _ _ _ _) rfl ?_
                  intro w6 d8 k6
                  have kD := kC.trans k6 (fun y hy h => by simp at hy h; omega)
                  refine ⟨kD, wpAnyH_done (by kernel_rfl) ?_ _⟩
                  have hfin : TwoModes wo sx sy Aq Aq' qx.length qy.length cq cq' (.pointer (some ⟨wo.heap.size, 0, none⟩)) (.pointer (some ⟨wo.heap.size + 1, 0, none⟩)) w6 := ⟨_, _, rfl, rfl, d7.keep k6 (by simp), d8, kD⟩
                  have HFIN := Lib.hid hfin
                  clear hfin d7 d8 k5 k6 kC kD kA kB b7 b8
                  (simp only [Act.put])
                  go_wp2_with fail
                  go_meet
                  exact HFIN.out
                · refine oph_run (v := .pointer (some ⟨wo.heap.size, 0, none⟩)) (w' := wo.drew.alloc (.cells #[.int .u32 0, .slice none 0 0] 47)) 11 rfl (by go_simp) kA ?_
                  (simp only [Act.put, List.setIfInBounds_toArray, List.set_cons_zero, List.set_cons_succ])
                  refine ah_one 10 (by kernel_rfl) ?_
                  refine oph_run (v := .pointer (some ⟨wo.heap.size + 1, 0, none⟩)) (w' := (wo.drew.alloc (.cells #[.int .u32 0, .slice none 0 0] 47)).alloc (.cells #[.int .u32 0, .slice none 0 0] 47)) 10 rfl (by go_simp) kB ?_
                  (simp only [Act.put, List.setIfInBounds_toArray, List.set_cons_zero, List.set_cons_succ])
                  refine ah_store (vs := [.int .u32 sx, .slice Aq qx.length cq]) 12 rfl (by kernel_rfl) rfl rfl (by kernel_rfl) b8 (hz1 _ _ _ _) rfl ?_
                  intro w5 d7 k5
                  have kC := kB.trans k5 (fun y hy h => by simp at hy h; omega)
                  refine ⟨kC, ?_⟩
                  (simp only [Act.put])
                  refine ah_store (vs := [.int .u32 sy, .slice Aq' qy.length cq']) 13 rfl (by kernel_rfl) rfl rfl (by kernel_rfl) (b7.keep k5 (by simp)) (hz1 _ _ _ _) rfl ?_
                  intro w6 d8 k6
                  have kD := kC.trans k6 (fun y hy h => by simp at hy h; omega)
                  refine ⟨kD, wpAnyH_done (by kernel_rfl) ?_ _⟩
                  have hfin : TwoModes wo sx sy Aq Aq' qx.length qy.length cq cq' (.pointer (some ⟨wo.heap.size + 1, 0, none⟩)) (.pointer (some ⟨wo.heap.size, 0, none⟩)) w6 := ⟨_, _, rfl, rfl, d7.keep k6 (by simp), d8, kD⟩
                  have HFIN := Lib.hid hfin
                  clear hfin d7 d8 k5 k6 kC kD kA kB b7 b8
                  (simp only [Act.put])
                  go_wp2_with fail
                  go_meet
                  exact HFIN.out
              case rest =>
                obtain ⟨g8, g9, rfl, rfl, B8, B9, hkx⟩ := hcut
                clear hG
                have b81 := B8.at_ (l := [.int .u32 (sx : Int), .slice Aq qx.length cq]) (j := 1) rfl
                have b80 := B8.at_ (l := [.int .u32 (sx : Int), .slice Aq qx.length cq]) (j := 0) rfl
                have b91 := B9.at_ (l := [.int .u32 (sy : Int), .slice Aq' qy.length cq']) (j := 1) rfl
                have b90 := B9.at_ (l := [.int .u32 (sy : Int), .slice Aq' qy.length cq']) (j := 0) rfl
                have KX := KW.then hkx
                by_cases hs : sx = sy
                · by_cases hl : qx.length = qy.length
                  · have hs1 : ((sx : Int) != (sy : Int)) = false := by simp [hs]
                    have hs2 : (sx != sy) = false := by simp [hs]
                    have hl1 : ((qx.length : Int) != (qy.length : Int)) = false := by simp [hl]
                    have hl2 : (qx.length != qy.length) = false := by simp [hl]
                    have HS := Lib.hid hs
                    have HL := Lib.hid hl
                    clear hs hl
                    go_wp2
                    clear hs1 hs2 hl1 hl2 b80 b90
                    go_loopg [10] qx.length (fun gj i wx => ∃ j : Nat, j + gj = qx.length ∧ i = .int .i64 j ∧ qx.take j = qy.take j ∧ Keep [] wc wx)
                    case atStart => exact ⟨0, by omega, rfl, rfl, Keep.refl _ _⟩
                    case round =>
                      obtain ⟨j, hj, rfl, hqe, hkx2⟩ := hrel
                      have HJ := Lib.hid hj
                      have hj9 : j ≤ qx.length := by omega
                      clear hj
                      have K3 := KX.then hkx2
                      have s81 := (hkx2.cell (p := ⟨g8, 1, none⟩) B8.lt (by simp)).trans b81
                      by_cases hlj : j < qx.length
                      · have hlj' : j < qy.length := by have := HL.out; omega
                        obtain ⟨bq, oq, hQA, hbq, hqs⟩ := heA (by omega)
                        obtain ⟨bq', oq', hQA', hbq', hqs'⟩ := heA' (by omega)
                        have hst2 : Hid (qx[j] = qy[j] → qx.take (j + 1) = qy.take (j + 1)) := take_step hlj hlj' hqe
                        have hno2 : Hid (qx[j] ≠ qy[j] → r = false) := fun hne => hno.out (fun e => (getElem_ne hlj hlj' hne) (hme.out.1 e).2)
                        have hc1 := hqs j hlj
                        have hc2 := hqs' j hlj'
                        clear hqs hqs' hqe heA heA'
                        generalize qx[j] = a at *
                        generalize qy[j] = b at *
                        have hneq := fun W => queue_neq (a := a) (b := b) W
                        have hgd := fun x y W => queue_guard' x y (queCells a).toArray (queCells b).toArray W
                        have hF : ∀ w', Keep [] wr w' → w'.cell? ⟨g8, 1, none⟩ = some (.slice (some ⟨bq, oq, none⟩) qx.length cq) ∧ w'.cell? ⟨g9, 1, none⟩ = some (.slice (some ⟨bq', oq', none⟩) qy.length cq') := fun w' hw => by
                          have h1 := ((hkx2.then hw).cell (p := ⟨g8, 1, none⟩) B8.lt (by simp)).trans b81
                          have h2 := ((hkx2.then hw).cell (p := ⟨g9, 1, none⟩) B9.lt (by simp)).trans b91
                          rw [hQA] at h1
                          rw [hQA'] at h2
                          exact ⟨h1, h2⟩
                        have hfa : Hid (∀ w', Keep [] wr w' → CellsAt w' bq (oq + j * 2) (queCells a)) := fun w' hw => hc1.keep0 (K3.then hw) hbq
                        have hfb : Hid (∀ w', Keep [] wr w' → CellsAt w' bq' (oq' + j * 2) (queCells b)) := fun w' hw => hc2.keep0 (K3.then hw) hbq'
                        have j0 : (0 : Int) ≤ (j : Int) := by omega
                        have j1 : (j : Int) < qy.length := by omega
                        have j2 : (j : Int) < qx.length := by omega
                        have HQA := Lib.hid hQA
                        have HQA' := Lib.hid hQA'
                        clear hc1 hc2 hQA hQA' b81 b91
                        by_cases hab : a = b
                        · have HSj := Lib.hid (hst2.out hab)
                          have hd : (!decide (a = b)) = false := by simp [hab]
                          rw [hd] at hneq
                          clear hab hd
                          go_wp2
                          refine wp_region_flow (Keep [] wr) rfl (by kernel_rfl) (Keep.refl _ _).drew ?_
                          repeat (refine fl_val (v := ?_) (by rfl) ?_ ?_; rotate_left; (intro w' hS; obtain ⟨f1, f2⟩ := hF w' hS; go_simp; with_reducible rfl); simp only [Act.put, List.setIfInBounds_toArray, List.set_cons_zero, List.set_cons_succ])
                          refine fl_agg 65 (.tmp 120) (queCells a) rfl rfl rfl agg_queue (fun w' hw => hfa.out w' hw) ?_
                          simp only [Act.put, List.setIfInBounds_toArray, List.set_cons_zero, List.set_cons_succ]
                          repeat (refine fl_val (v := ?_) (by rfl) ?_ ?_; rotate_left; (intro w' hS; obtain ⟨f1, f2⟩ := hF w' hS; go_simp; with_reducible rfl); simp only [Act.put, List.setIfInBounds_toArray, List.set_cons_zero, List.set_cons_succ])
                          refine fl_agg 65 (.tmp 125) (queCells b) rfl rfl rfl agg_queue (fun w' hw => hfb.out w' hw) ?_
                          simp only [Act.put, List.setIfInBounds_toArray, List.set_cons_zero, List.set_cons_succ]
                          repeat (refine fl_val (v := ?_) (by rfl) ?_ ?_; rotate_left; (intro w' hS; obtain ⟨f1, f2⟩ := hF w' hS; go_simp; with_reducible rfl); simp only [Act.put, List.setIfInBounds_toArray, List.set_cons_zero, List.set_cons_succ])
                          refine fl_nil ?_
                          intro w4 hS
                          have hrel4 : Hid (Keep [] wc w4) := hkx2.then hS
                          go_wp2
                          go_roundg (gk - 1)
                          case rel => exact ⟨j + 1, by have := HJ.out; omega, by go_num, HSj.out, hrel4.out⟩
                          case measure => have := HJ.out; omega
                        · have HR := Lib.hid (hno2.out hab)
                          have hd : (!decide (a = b)) = true := by simp [hab]
                          rw [hd] at hneq
                          clear hab hd
                          go_wp2
                          refine wp_region_flow (Keep [] wr) rfl (by kernel_rfl) (Keep.refl _ _).drew ?_
                          repeat (refine fl_val (v := ?_) (by rfl) ?_ ?_; rotate_left; (intro w' hS; obtain ⟨f1, f2⟩ := hF w' hS; go_simp; with_reducible rfl); simp only [Act.put, List.setIfInBounds_toArray, List.set_cons_zero, List.set_cons_succ])
                          refine fl_agg 65 (.tmp 120) (queCells a) rfl rfl rfl agg_queue (fun w' hw => hfa.out w' hw) ?_
                          simp only [Act.put, List.setIfInBounds_toArray, List.set_cons_zero, List.set_cons_succ]
                          repeat (refine fl_val (v := ?_) (by rfl) ?_ ?_; rotate_left; (intro w' hS; obtain ⟨f1, f2⟩ := hF w' hS; go_simp; with_reducible rfl); simp only [Act.put, List.setIfInBounds_toArray, List.set_cons_zero, List.set_cons_succ])
                          refine fl_agg 65 (.tmp 125) (queCells b) rfl rfl rfl agg_queue (fun w' hw => hfb.out w' hw) ?_
                          simp only [Act.put, List.setIfInBounds_toArray, List.set_cons_zero, List.set_cons_succ]
                          repeat (refine fl_val (v := ?_) (by rfl) ?_ ?_; rotate_left; (intro w' hS; obtain ⟨f1, f2⟩ := hF w' hS; go_simp; with_reducible rfl); simp only [Act.put, List.setIfInBounds_toArray, List.set_cons_zero, List.set_cons_succ])
                          refine fl_nil ?_
                          intro w4 hS
                          have hrel4 : Hid (Keep [] w w4) := K3.then hS
                          go_wp2
                          go_ret
                          exact ⟨by rw [HR.out]; rfl, hrel4.out⟩
                      · have HM : Hid (x.modes.take (k + 1) = y.modes.take (k + 1)) := hst.out (hme.out.2 ⟨HS.out, take_all (by omega) (by have := HL.out; omega) hqe⟩)
                        have HX : Hid (Keep [] W0 wr) := (hkeep.trans hkx (by simp)).trans hkx2 (by simp)
                        clear hqe heA heA'
                        go_wp2
                        go_roundg (og - 1)
                        case rel => exact ⟨k + 1, by have := HK.out; omega, by go_num, HM.out, HX.out⟩
                        case measure => have := HK.out; omega
                  · have HR := Lib.hid (hno.out (fun e => hl (by rw [(hme.out.1 e).2])))
                    have hs1 : ((sx : Int) != (sy : Int)) = false := by simp [hs]
                    have hs2 : (sx != sy) = false := by simp [hs]
                    have hl1 : ((qx.length : Int) != (qy.length : Int)) = true := by simp; omega
                    have hl2 : (qx.length != qy.length) = true := by simp [hl]
                    clear hs hl heA heA'
                    go_wp2
                    go_ret
                    exact ⟨by rw [HR.out]; rfl, KX⟩
                · have HR := Lib.hid (hno.out (fun e => hs (hme.out.1 e).1))
                  have hs1 : ((sx : Int) != (sy : Int)) = true := by simp; omega
                  have hs2 : (sx != sy) = true := by simp [hs]
                  clear hs heA heA'
                  go_wp2
                  go_ret
                  exact ⟨by rw [HR.out]; rfl, KX⟩
            · have HM := Lib.hid (take_all (by omega) (by have := HL2.out; omega) heq)
              have HR := Lib.hid (hEq.out HXR.out HT.out HM.out HE.out)
              have hrel4 : Hid (Keep [] w wr) := K0.trans hkeep (by simp)
              clear heq hm hm'
              go_wp2
              go_ret
              exact ⟨by rw [HR.out]; rfl, hrel4.out⟩
end Go.Proofs.YtfgjcjpemlgnmaaDoor
