/- == of tasks, edges and queues; when two images are the same, stage by stage. No condition. -/
import Derived.Test.YtajlkfhekligeaaImgE
namespace Go.Proofs.Ytajlkfhekligeaa
open Go.RowKit

theorem pI_int (d : Nat) : PartI Try.prog 3 1 (d + 1) := partI_int Try.underlying3
theorem pI_pol (d : Nat) : PartI Try.prog 48 1 (d + 1) := partI_int Try.underlying48
theorem pI_prot (d : Nat) : PartI Try.prog 39 1 (d + 1) := partI_int Try.underlying39
theorem pI_8 (d : Nat) : PartI Try.prog 36 8 (d + 2) := partI_agg (by rw [Try.underlying36]) (by kernel_rfl) (eqI_array Try.underlying36 Try.underlying3 (by kernel_rfl))
theorem pI_16 (d : Nat) : PartI Try.prog 40 16 (d + 2) := partI_agg (by rw [Try.underlying40]) (by kernel_rfl) (eqI_array Try.underlying40 Try.underlying3 (by kernel_rfl))
theorem pI_4 (d : Nat) : PartI Try.prog 41 4 (d + 2) := partI_agg (by rw [Try.underlying41]) (by kernel_rfl) (eqI_array Try.underlying41 Try.underlying3 (by kernel_rfl))
theorem eqI_task (d : Nat) : EqI Try.prog 38 11 (d + 3) :=
  eqI_struct Try.underlying38 (by kernel_rfl) ⟨by decide, rfl, 1, pI_int _, by decide, rfl, 1, pI_int _, by decide, rfl, 1, pI_int _, by decide, rfl, 8, pI_8 _, rfl⟩
theorem eqI_queue (d : Nat) : EqI Try.prog 50 2 (d + 2) :=
  eqI_struct Try.underlying50 (by kernel_rfl) ⟨by decide, rfl, 1, pI_int _, by decide, rfl, 1, pI_pol _, rfl⟩
theorem eqI_edge (d : Nat) : EqI Try.prog 43 23 (d + 3) :=
  eqI_struct Try.underlying43 (by kernel_rfl) ⟨by decide, rfl, 1, pI_int _, by decide, rfl, 1, pI_int _, by decide, rfl, 1, pI_prot _, by decide, rfl, 16, pI_16 _, by decide, rfl, 4, pI_4 _, rfl⟩

theorem tskInts_inj {a b : Tsk} : tskInts a = tskInts b ↔ a = b := by
  constructor
  · intro h
    obtain ⟨p, d, c, l⟩ := a
    obtain ⟨p', d', c', l'⟩ := b
    simp only [tskInts, List.cons.injEq] at h
    obtain ⟨rfl, rfl, rfl, rfl⟩ := h
    rfl
  · rintro rfl; rfl
theorem edgInts_inj {a b : Edg} (h : a.offs.length = 16) (h' : b.offs.length = 16) : edgInts a = edgInts b ↔ a = b := by
  constructor
  · intro e
    obtain ⟨p, d, c, l, m⟩ := a
    obtain ⟨p', d', c', l', m'⟩ := b
    simp only [edgInts, List.cons.injEq] at e h h'
    obtain ⟨rfl, rfl, rfl, e⟩ := e
    obtain ⟨rfl, rfl⟩ := List.append_inj e (by omega)
    rfl
  · rintro rfl; rfl
theorem queInts_inj {a b : Que} : queInts a = queInts b ↔ a = b := by
  constructor
  · intro h
    obtain ⟨p, d⟩ := a
    obtain ⟨p', d'⟩ := b
    simp only [queInts, List.cons.injEq] at h
    obtain ⟨rfl, rfl, _⟩ := h
    rfl
  · rintro rfl; rfl
theorem task_neq {a b : Tsk} (h : a.lon.length = 8) (h' : b.lon.length = 8) (w : World) : (binOp .neq 38 (.agg (tskCells a).toArray) (.agg (tskCells b).toArray)).run Try.prog w = .ok (.bool (!decide (a = b))) w := by
  have := run_neq_I (eqI_task 9997) (tskInts a) (tskInts b) (by simp [tskInts, h]) (by simp [tskInts, h']) w
  simp only [tskInts_inj] at this
  exact this
theorem edge_neq {a b : Edg} (h : a.offs.length = 16) (h' : b.offs.length = 16) (g : a.mp.length = 4) (g' : b.mp.length = 4) (w : World) : (binOp .neq 43 (.agg (edgCells a).toArray) (.agg (edgCells b).toArray)).run Try.prog w = .ok (.bool (!decide (a = b))) w := by
  have := run_neq_I (eqI_edge 9997) (edgInts a) (edgInts b) (by simp [edgInts, h, g]) (by simp [edgInts, h', g']) w
  simp only [edgInts_inj h h'] at this
  exact this
theorem queue_eql {a b : Que} (w : World) : (binOp .eql 50 (.agg (queCells a).toArray) (.agg (queCells b).toArray)).run Try.prog w = .ok (.bool (decide (a = b))) w := by
  have := run_eql_I (eqI_queue 9998) (queInts a) (queInts b) rfl rfl w
  simp only [queInts_inj] at this
  exact this
theorem queue_neq {a b : Que} (w : World) : (binOp .neq 50 (.agg (queCells a).toArray) (.agg (queCells b).toArray)).run Try.prog w = .ok (.bool (!decide (a = b))) w := by
  have := run_neq_I (eqI_queue 9998) (queInts a) (queInts b) rfl rfl w
  simp only [queInts_inj] at this
  exact this
theorem task_guard (x y : Operand) (u v : Array Value) (w : World) : (eqGuard .neq 38 x y (.agg u) (.agg v)).run Try.prog w = .ok () w := guard_neq_I (by kernel_rfl) x y u v w
theorem edge_guard (x y : Operand) (u v : Array Value) (w : World) : (eqGuard .neq 43 x y (.agg u) (.agg v)).run Try.prog w = .ok () w := guard_neq_I (by kernel_rfl) x y u v w
theorem queue_guard (x y : Operand) (u v : Array Value) (w : World) : (eqGuard .eql 50 x y (.agg u) (.agg v)).run Try.prog w = .ok () w := guard_eql_I (by kernel_rfl) x y u v w
theorem queue_guard' (x y : Operand) (u v : Array Value) (w : World) : (eqGuard .neq 50 x y (.agg u) (.agg v)).run Try.prog w = .ok () w := guard_neq_I (by kernel_rfl) x y u v w

theorem take_step {α : Type} {l m : List α} {k : Nat} (hk : k < l.length) (hk' : k < m.length) (h : l.take k = m.take k) (e : l[k] = m[k]) : l.take (k + 1) = m.take (k + 1) := by
  rw [List.take_succ_eq_append_getElem hk, List.take_succ_eq_append_getElem hk', h, e]
theorem img_ne_res {x y : Img} (h : x.res ≠ y.res) : decide (x = y) = false := by rw [decide_eq_false_iff_not]; rintro rfl; exact h rfl
theorem img_ne_tasks {x y : Img} (h : x.tasks ≠ y.tasks) : decide (x = y) = false := by rw [decide_eq_false_iff_not]; rintro rfl; exact h rfl
theorem img_ne_modes {x y : Img} (h : x.modes ≠ y.modes) : decide (x = y) = false := by rw [decide_eq_false_iff_not]; rintro rfl; exact h rfl
theorem img_ne_edges {x y : Img} (h : x.edges ≠ y.edges) : decide (x = y) = false := by rw [decide_eq_false_iff_not]; rintro rfl; exact h rfl
theorem img_eq {x y : Img} (h : x.res = y.res) (h1 : x.tasks = y.tasks) (h2 : x.modes = y.modes) (h3 : x.edges = y.edges) : decide (x = y) = true := by
  rw [decide_eq_true_eq]
  obtain ⟨a, b, c, d⟩ := x
  obtain ⟨a', b', c', d'⟩ := y
  simp only at h h1 h2 h3
  subst h; subst h1; subst h2; subst h3; rfl
theorem getElem_ne {α : Type} {l m : List α} {k : Nat} (hk : k < l.length) (hk' : k < m.length) (h : l[k] ≠ m[k]) : l ≠ m := by rintro rfl; exact h rfl
theorem take_all {α : Type} {l m : List α} {k : Nat} (hk : l.length ≤ k) (hk' : m.length ≤ k) (h : l.take k = m.take k) : l = m := by rwa [List.take_of_length_le hk, List.take_of_length_le hk'] at h
end Go.Proofs.Ytajlkfhekligeaa
