/- An image that is built, in memory: its rows, its own, from a block on. No condition. -/
import Derived.Test.YtfgjcjpemlgnmaaDoorCrTask
import Derived.Great.BuildSlice
namespace Go.Proofs.YtfgjcjpemlgnmaaDoor
open Go.RowKit

theorem row_apartT {w : World} {b0 e1 e2 z1 z2 n1 n2 : Nat} {v1 v2 : Value} {x1 x2 : List Value} (h1 : w.ownsRow b0 e1 z1 v1 n1 x1) (h2 : w.ownsRow b0 e2 z2 v2 n2 x2) (hne : e1 ≠ e2) : ∀ g, v2.ownBlock = some g → g ∉ v1.ownBlock.toList := by
  intro g hg hm
  obtain ⟨c1, f1, q1⟩ := row_typed h1 g hm
  obtain ⟨c2, f2, q2⟩ := row_typed h2 g (by rw [hg]; simp)
  rw [q1] at q2
  cases q2
  exact hne rfl
theorem row_lt {w : World} {b0 e size n : Nat} {v : Value} {xs : List Value} (h : w.ownsRow b0 e size v n xs) : ∀ y, y ∈ v.ownBlock.toList → y < w.heap.size := by
  intro y hy
  obtain ⟨cs, fr, q⟩ := row_typed h y hy
  exact (Array.getElem?_eq_some_iff.1 q).1
theorem row_base {w : World} {b0 e size n : Nat} {v : Value} {xs : List Value} (h : w.ownsRow b0 e size v n xs) : ∀ y, y ∈ v.ownBlock.toList → b0 ≤ y := by
  intro y hy
  rcases h.2 with ⟨rfl, _⟩ | ⟨g', cap, cur, rfl, hb, _⟩
  · simp [Value.ownBlock] at hy
  · simp [Value.ownBlock] at hy
    subst hy
    exact hb
theorem slice_task : SliceOf Tryd.prog 22 57 11 88 := ⟨Tryd.underlying22, by kernel_rfl, by decide⟩
theorem slice_mode : SliceOf Tryd.prog 23 47 2 32 := ⟨Tryd.underlying23, by kernel_rfl, by decide⟩
theorem slice_edge : SliceOf Tryd.prog 24 70 23 184 := ⟨Tryd.underlying24, by kernel_rfl, by decide⟩
theorem slice_queue : SliceOf Tryd.prog 45 65 2 16 := ⟨Tryd.underlying45, by kernel_rfl, by decide⟩
/-- The types of an image's rows. -/
abbrev imgUs : List Nat := [57, 47, 65, 70]
/-- Where a mode's queues lie, as a value. -/
abbrev queV (m : Mdd × Option Addr × Nat) : Value := .slice m.2.1 m.1.qs.length m.2.2
/-- An image whose rows are its own, from block b on. -/
structure OwnImg (W : World) (b : Nat) (x : Img) (vt vm ve : Value) (ms : List (Mdd × Option Addr × Nat)) : Prop where
  ok : x.Ok
  eqm : ms.map (·.1) = x.modes
  tasks : W.ownsRow b 57 11 vt x.tasks.length (x.tasks.flatMap tskCells)
  modes : W.ownsRow b 47 2 vm x.modes.length (ms.flatMap mddCells)
  edges : W.ownsRow b 70 23 ve x.edges.length (x.edges.flatMap edgCells)
  ques : ∀ m ∈ ms, W.ownsRow b 65 2 (queV m) m.1.qs.length (m.1.qs.flatMap queCells)
theorem OwnImg.nil (W : World) (b : Nat) (r : Int) : OwnImg W b ⟨r, [], [], []⟩ (.slice none 0 0) (.slice none 0 0) (.slice none 0 0) [] :=
  ⟨⟨fun _ h => (by cases h), fun _ h => (by cases h), fun _ h => (by cases h), fun _ h => (by cases h)⟩, rfl, World.ownsRow_nil _ _ _ _, World.ownsRow_nil _ _ _ _, World.ownsRow_nil _ _ _ _, fun _ h => (by cases h)⟩
section
variable {W W' : World} {b : Nat} {x : Img} {vt vm ve : Value} {ms : List (Mdd × Option Addr × Nat)}
theorem OwnImg.keep {F : List Nat} (h : OwnImg W b x vt vm ve ms) (k : Keep F W W') (hF : ∀ g ∈ F, ∀ cs t fr, W.heap[g]? = some (.cells cs t fr) → t ∉ imgUs) : OwnImg W' b x vt vm ve ms := by
  have own : ∀ {e size n : Nat} {v : Value} {xs : List Value}, W.ownsRow b e size v n xs → e ∈ imgUs → W'.ownsRow b e size v n xs := fun hr he =>
    own_keep hr k (fun g hg hm => by
      obtain ⟨cs, fr, hh⟩ := row_typed hr g (by simp [hg])
      exact hF g hm cs _ fr hh he)
  exact ⟨h.ok, h.eqm, own h.tasks (by simp), own h.modes (by simp), own h.edges (by simp), fun m hm => own (h.ques m hm) (by simp)⟩
theorem OwnImg.keep0 (h : OwnImg W b x vt vm ve ms) (k : Keep [] W W') : OwnImg W' b x vt vm ve ms := h.keep k (by simp)
theorem OwnImg.base {b' : Nat} (h : OwnImg W b x vt vm ve ms) (hb : b' ≤ b) : OwnImg W b' x vt vm ve ms :=
  ⟨h.ok, h.eqm, own_base h.tasks hb, own_base h.modes hb, own_base h.edges hb, fun m hm => own_base (h.ques m hm) hb⟩
theorem OwnImg.len (h : OwnImg W b x vt vm ve ms) : ms.length = x.modes.length := by rw [← h.eqm]; simp
theorem row_len {base : Nat} {e : TypeId} {size n : Nat} {v : Value} {xs : List Value} (h : W.ownsRow base e size v n xs) : n ≤ maxLen := by
  rcases h.2 with ⟨_, rfl⟩ | ⟨_, cap, _, _, _, _, h1, h2, _⟩
  · exact Nat.zero_le _
  · omega
theorem zip_ms : ∀ (ms : List (Mdd × Option Addr × Nat)), (ms.map (·.1)).zip (ms.map (·.2)) = ms
  | [] => rfl
  | m :: l => by simp [zip_ms l]
/-- .. as an image that only is read. -/
theorem OwnImg.at_ {ta ma ea : Option Addr} {tn tc mn mc en ec : Nat} (h : OwnImg W b x (.slice ta tn tc) (.slice ma mn mc) (.slice ea en ec) ms) :
    tn = x.tasks.length ∧ mn = x.modes.length ∧ en = x.edges.length ∧ ImgAt W ⟨ta, tc, ma, mc, ea, ec, ms.map (·.2)⟩ x := by
  obtain ⟨_, _, e1⟩ := own_shape h.tasks
  obtain ⟨_, _, e2⟩ := own_shape h.modes
  obtain ⟨_, _, e3⟩ := own_shape h.edges
  cases e1
  cases e2
  cases e3
  have hl := h.len
  refine ⟨rfl, rfl, rfl, h.ok, by simp [hl], Reads.of_own h.tasks, ?_, Reads.of_own h.edges, fun i hi hi' => ?_, row_len h.tasks, row_len h.modes, row_len h.edges, fun m hm => ?_⟩
  · have := Reads.of_own h.modes
    dsimp only
    rw [← h.eqm, zip_ms]
    simpa [hl] using this
  · have hi2 : i < ms.length := by omega
    have hq := Reads.of_own (h.ques ms[i] (List.getElem_mem hi2))
    have hm : x.modes[i] = ms[i].1 := by simp [← h.eqm]
    simp only [List.getElem_map]
    rw [hm]
    exact hq
  · rw [← h.eqm] at hm
    obtain ⟨m', hm', rfl⟩ := List.mem_map.1 hm
    exact row_len (h.ques m' hm')
theorem OwnImg.res (h : OwnImg W b x vt vm ve ms) (n : Int) : OwnImg W b { x with res := n } vt vm ve ms :=
  ⟨⟨h.ok.lon, h.ok.offs, h.ok.mp, h.ok.set⟩, h.eqm, h.tasks, h.modes, h.edges, h.ques⟩
/-- A task more. -/
theorem OwnImg.task {vt' : Value} (h : OwnImg W b x vt vm ve ms) (t : Tsk) (ht : t.lon.length = 8) (k : Keep vt.ownBlock.toList W W') (hr : W'.ownsRow b 57 11 vt' (x.tasks.length + 1) (x.tasks.flatMap tskCells ++ tskCells t)) :
    OwnImg W' b { x with tasks := x.tasks ++ [t] } vt' vm ve ms := by
  have ap : ∀ {e size n : Nat} {v : Value} {xs : List Value}, W.ownsRow b e size v n xs → e ≠ 57 → W'.ownsRow b e size v n xs := fun ho he => own_keep ho k (row_apartT h.tasks ho (Ne.symm he))
  refine ⟨⟨fun a ha => ?_, h.ok.offs, h.ok.mp, h.ok.set⟩, h.eqm, by simpa using hr, ap h.modes (by decide), ap h.edges (by decide), fun m hm => ap (h.ques m hm) (by decide)⟩
  rcases List.mem_append.1 ha with ha | ha
  · exact h.ok.lon a ha
  · simp at ha; subst ha; exact ht
/-- An edge more. -/
theorem OwnImg.edge {ve' : Value} (h : OwnImg W b x vt vm ve ms) (t : Edg) (ht : t.offs.length = 16 ∧ t.mp.length = 4) (k : Keep ve.ownBlock.toList W W') (hr : W'.ownsRow b 70 23 ve' (x.edges.length + 1) (x.edges.flatMap edgCells ++ edgCells t)) :
    OwnImg W' b { x with edges := x.edges ++ [t] } vt vm ve' ms := by
  have ap : ∀ {e size n : Nat} {v : Value} {xs : List Value}, W.ownsRow b e size v n xs → e ≠ 70 → W'.ownsRow b e size v n xs := fun ho he => own_keep ho k (row_apartT h.edges ho (Ne.symm he))
  refine ⟨⟨h.ok.lon, fun a ha => ?_, fun a ha => ?_, h.ok.set⟩, h.eqm, ap h.tasks (by decide), ap h.modes (by decide), by simpa using hr, fun m hm => ap (h.ques m hm) (by decide)⟩
  · rcases List.mem_append.1 ha with ha | ha
    · exact h.ok.offs a ha
    · simp at ha; subst ha; exact ht.1
  · rcases List.mem_append.1 ha with ha | ha
    · exact h.ok.mp a ha
    · simp at ha; subst ha; exact ht.2
/-- A mode more. -/
theorem OwnImg.mode {vm' : Value} {A : Option Addr} {c : Nat} (h : OwnImg W b x vt vm ve ms) (m : Mdd) (hs : m.set < 4294967296) (hq : W.ownsRow b 65 2 (.slice A m.qs.length c) m.qs.length (m.qs.flatMap queCells)) (k : Keep vm.ownBlock.toList W W') (hr : W'.ownsRow b 47 2 vm' (x.modes.length + 1) (ms.flatMap mddCells ++ mddCells (m, A, c))) :
    OwnImg W' b { x with modes := x.modes ++ [m] } vt vm' ve (ms ++ [(m, A, c)]) := by
  have ap : ∀ {e size n : Nat} {v : Value} {xs : List Value}, W.ownsRow b e size v n xs → e ≠ 47 → W'.ownsRow b e size v n xs := fun ho he => own_keep ho k (row_apartT h.modes ho (Ne.symm he))
  refine ⟨⟨h.ok.lon, h.ok.offs, h.ok.mp, fun a ha => ?_⟩, by simp [h.eqm], ap h.tasks (by decide), by simpa using hr, ap h.edges (by decide), fun a ha => ?_⟩
  · rcases List.mem_append.1 ha with ha | ha
    · exact h.ok.set a ha
    · simp at ha; subst ha; exact hs
  · rcases List.mem_append.1 ha with ha | ha
    · exact ap (h.ques a ha) (by decide)
    · simp at ha
      subst ha
      exact ap hq (by decide)
end
/-- A slice literal of one aggregate. -/
theorem exec_slice_one {P : Program} {t e : TypeId} {size bytes : Nat} (hS : SliceOf P t e size bytes) {cs : List Value} (hl : cs.length = size) (hb : size ≤ 1000) {ev : Operand → Value} {x : Operand} (hx : ev x = .agg cs.toArray) (w : World) {dst : Option Tmp} {ty : TypeId} {pos : String} {after : Array Edge} {gd : Option (Nat × Bool)} :
    (execOp ev ⟨dst, .buildSlice t 1 #[(0, x)], ty, pos, after, gd⟩).run P w = .ok (.value (.slice (some ⟨w.heap.size, 0, none⟩) 1 1)) (w.alloc (.cells cs.toArray e)) := by
  obtain ⟨ht, ⟨i, z, hi, hz, hsz, _, hzs⟩, hpos⟩ := hS.parts
  have hf : Instr.fill (fun j => some (j * i.size, i.size)) ((Array.range (1 * i.size)).map (z.cells[· % z.cells.size]!)) #[(0, Value.agg cs.toArray)].toList = some cs.toArray := by
    have := Great.fill_whole (s := i.size) (by omega) [Value.agg cs.toArray] ((Array.range (1 * i.size)).map (z.cells[· % z.cells.size]!)) (by simp [Value.cells, hl, hsz]) (by simp)
    simpa [Value.cells] using this
  have h := run_buildSlice (P := P) w t e 1 #[(0, Value.agg cs.toArray)] cs.toArray i z ht hi hz (by omega) (by omega) hf
  unfold execOp
  simp [hx, h]
end Go.Proofs.YtfgjcjpemlgnmaaDoor
