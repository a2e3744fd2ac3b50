/- A copy that is changed: what is kept while its parts are written to. -/
import Derived.Test.YtajlkfhekligeaaImgCp
import Derived.Test.YtajlkfhekligeaaImgEq
namespace Go.Proofs.Ytajlkfhekligeaa
open Go.RowKit

theorem flat_set {α : Type} {cells : α → List Value} {size : Nat} : ∀ (l : List α), (∀ a ∈ l, (cells a).length = size) → ∀ (k j : Nat) (hk : k < l.length) (hj : j < size) (a' : α) (u : Value), cells a' = (cells l[k]).set j u →
    (l.flatMap cells).set (k * size + j) u = (l.set k a').flatMap cells
  | [], _, k, j, hk, _, _, _, _ => by simp at hk
  | a :: l, h, k, j, hk, hj, a', u, he => by
    have ha := h a (by simp)
    cases k with
    | zero =>
      simp only [List.set_cons_zero, List.flatMap_cons, Nat.zero_mul, Nat.zero_add]
      rw [List.set_append_left _ _ (by omega), he]; rfl
    | succ k =>
      have ih := flat_set l (fun b hb => h b (by simp [hb])) k j (by simpa using hk) hj a' u (by simpa using he)
      simp only [List.set_cons_succ, List.flatMap_cons]
      rw [List.set_append_right _ _ (by rw [ha, Nat.add_mul]; omega), ← ih, ha, show (k + 1) * size + j - size = k * size + j by rw [Nat.add_mul]; omega]
theorem rowM_set0 : ∀ (ms : List Mdd) (qs : List (Option Addr × Nat)) (i : Nat) (s : Nat), qs.length = ms.length → (hi : i < ms.length) → (rowM ms qs).set (i * 2) (.int .u32 (s : Int)) = rowM (ms.set i ⟨s, ms[i].qs⟩) qs
  | [], qs, i, s, h, hi => by simp at hi
  | m :: ms, [], i, s, h, hi => by simp at h
  | m :: ms, q :: qs, i, s, h, hi => by
    cases i with
    | zero => rfl
    | succ i =>
      have := rowM_set0 ms qs i s (by simpa using h) (by simpa using hi)
      simp only [rowM, List.zip_cons_cons, List.flatMap_cons, List.set_cons_succ, List.getElem_cons_succ] at this ⊢
      rw [← this, show (i + 1) * 2 = (i * 2) + 2 by omega]
      rfl
theorem own_addr {w : World} {B : Nat} {e : TypeId} {size n c : Nat} {A : Option Addr} {xs : List Value} (h : w.ownsRow B e size (.slice A n c) n xs) (hn : 0 < n) : ∃ g, A = some ⟨g, 0, none⟩ ∧ B ≤ g ∧ g < w.heap.size := by
  obtain ⟨g, cap, hv, h1, h2⟩ := h.form hn
  injection hv with hv
  exact ⟨g, hv, h1, h2⟩

/-- The blocks of a copy's parts lie below B. -/
structure Under (B : Nat) (v : ImgV) : Prop where
  ta : ∀ a, v.ta = some a → a.block < B
  ma : ∀ a, v.ma = some a → a.block < B
  ea : ∀ a, v.ea = some a → a.block < B
  qa : ∀ q ∈ v.qa, ∀ a, q.1 = some a → a.block < B
theorem own_under {w : World} {B : Nat} {e : TypeId} {size n c : Nat} {A : Option Addr} {xs : List Value} (h : w.ownsRow B e size (.slice A n c) n xs) : ∀ a, A = some a → a.block < w.heap.size := by
  rintro a rfl
  exact (h.lt a.block rfl).2
theorem CopyAt.under {B : Nat} {w : World} {v : ImgV} {x : Img} (h : CopyAt B w v x) : Under w.heap.size v :=
  ⟨own_under h.tasks, own_under h.modes, own_under h.edges, fun q hq => by
    obtain ⟨i, hi, rfl⟩ := List.getElem_of_mem hq
    exact own_under (h.queues i (by rw [← h.ql]; exact hi) hi)⟩
theorem Under.mono {B B' : Nat} {v : ImgV} (h : Under B v) (hB : B ≤ B') : Under B' v :=
  ⟨fun a e => Nat.lt_of_lt_of_le (h.ta a e) hB, fun a e => Nat.lt_of_lt_of_le (h.ma a e) hB, fun a e => Nat.lt_of_lt_of_le (h.ea a e) hB, fun q hq a e => Nat.lt_of_lt_of_le (h.qa q hq a e) hB⟩

/-- While the copy vc is changed: the variables g5 and g6, the other copy, and all that was there before are as they were. -/
structure Mut (B1 B2 g5 g6 : Nat) (w : World) (vc vw : ImgV) (x : Img) (wr : World) : Prop where
  tasks : ∃ ts : List Tsk, ts.length = x.tasks.length ∧ (∀ t ∈ ts, t.lon.length = 8) ∧ wr.ownsRow B1 38 11 (.slice vc.ta x.tasks.length vc.tc) x.tasks.length (ts.flatMap tskCells)
  edges : ∃ es : List Edg, es.length = x.edges.length ∧ (∀ e ∈ es, e.offs.length = 16 ∧ e.mp.length = 4) ∧ wr.ownsRow B1 43 23 (.slice vc.ea x.edges.length vc.ec) x.edges.length (es.flatMap edgCells)
  modes : ∃ ms : List Mdd, ms.map (·.qs) = x.modes.map (·.qs) ∧ (∀ m ∈ ms, m.set < 4294967296) ∧ wr.ownsRow B1 47 2 (.slice vc.ma x.modes.length vc.mc) x.modes.length (rowM ms vc.qa)
  queues : ∀ i, (h : i < x.modes.length) → (h' : i < vc.qa.length) → ∃ qs : List Que, qs.length = x.modes[i].qs.length ∧ wr.ownsRow B1 50 2 (.slice vc.qa[i].1 x.modes[i].qs.length vc.qa[i].2) x.modes[i].qs.length (qs.flatMap queCells)
  bc : Blk wr g5 26 (imgCells vc x).toArray
  bw : Blk wr g6 26 (imgCells vw x).toArray
  was : CopyAt B2 wr vw x
  keep : Keep [] w wr
/-- What of it does not change. -/
structure MutB (B1 B2 : Nat) (w : World) (vc : ImgV) (x : Img) : Prop where
  lo : w.heap.size ≤ B1
  un : Under B2 vc
  ql : vc.qa.length = x.modes.length

section
variable {B1 B2 g5 g6 : Nat} {w : World} {vc vw : ImgV} {x : Img} {wr : World}
theorem Mut.later {w' : World} (h : Mut B1 B2 g5 g6 w vc vw x wr) (k : Keep [] wr w') : Mut B1 B2 g5 g6 w vc vw x w' := by
  obtain ⟨ts, t1, t2, t3⟩ := h.tasks
  obtain ⟨es, e1, e2, e3⟩ := h.edges
  obtain ⟨ms, m1, m2, m3⟩ := h.modes
  exact ⟨⟨ts, t1, t2, own_keep0 t3 k⟩, ⟨es, e1, e2, own_keep0 e3 k⟩, ⟨ms, m1, m2, own_keep0 m3 k⟩, fun i a b => by
    obtain ⟨qs, q1, q2⟩ := h.queues i a b
    exact ⟨qs, q1, own_keep0 q2 k⟩, h.bc.keep0 k, h.bw.keep0 k, h.was.keep0 k, h.keep.then k⟩
/-- A store into a block of another type, a copy's own, leaves a row as it was. -/
theorem own_other {w : World} {B B' : Nat} {e e' : TypeId} {size size' n n' c' : Nat} {v : Value} {xs xs' : List Value} {g : Nat} (h : w.ownsRow B e size v n xs) (h' : w.ownsRow B' e' size' (.slice (some ⟨g, 0, none⟩) n' c') n' xs') (hne : e ≠ e') (i : Nat) (u : Value) : (w.setCell ⟨g, i, none⟩ u).ownsRow B e size v n xs :=
  own_keep h (keep_set w g i u) (fun b hb hm => by simp at hm; subst hm; exact own_own_ne h h' hne hb rfl)
theorem Mut.task (h : Mut B1 B2 g5 g6 w vc vw x wr) (hb : MutB B1 B2 w vc x) {g : Nat} (hg : vc.ta = some ⟨g, 0, none⟩) {k : Nat} (hk : k < x.tasks.length) :
    (∃ z : Int, wr.cell? ⟨g, k * 11 + 2, none⟩ = some (.int .i64 z)) ∧ wr.frozen? ⟨g, k * 11 + 2, none⟩ = false ∧ ∀ z : Int, Mut B1 B2 g5 g6 w vc vw x (wr.setCell ⟨g, k * 11 + 2, none⟩ (.int .i64 z)) := by
  obtain ⟨ts, t1, t2, t3⟩ := h.tasks
  rw [hg] at t3
  have hlt := t3.lt g rfl
  have hB2 : g < B2 := hb.un.ta _ hg
  have hkt : k < ts.length := by omega
  have hcl : ∀ t ∈ ts, (tskCells t).length = 11 := fun t ht => tskCells_len (t2 t ht)
  refine ⟨⟨ts[k].cost, ?_⟩, t3.frozenAt _, fun z => ?_⟩
  · rw [t3.cellAt _ (by omega), flat_at ts hcl k 2 hkt (by decide)]; rfl
  · have st := (t3.stored (k * 11 + 2) (.int .i64 z)).1
    rw [flat_set ts hcl k 2 hkt (by decide) { ts[k] with cost := z } _ rfl] at st
    obtain ⟨es, e1, e2, e3⟩ := h.edges
    obtain ⟨ms, m1, m2, m3⟩ := h.modes
    refine ⟨⟨ts.set k { ts[k] with cost := z }, by simp [t1], fun t ht => ?_, by rw [hg]; exact st⟩, ⟨es, e1, e2, own_other e3 t3 (by decide) _ _⟩, ⟨ms, m1, m2, own_other m3 t3 (by decide) _ _⟩, fun i a b => ?_, h.bc.far (fun e => ?_) _, h.bw.far (fun e => ?_) _,
      h.was.keep (keep_set _ _ _ _) (by simpa using hB2), h.keep.setCell (fun hh => by have := hb.lo; simp at hh; omega) _⟩
    · rcases List.mem_or_eq_of_mem_set ht with h1 | rfl
      · exact t2 t h1
      · exact t2 ts[k] (List.getElem_mem hkt)
    · obtain ⟨qs, q1, q2⟩ := h.queues i a b
      exact ⟨qs, q1, own_other q2 t3 (by decide) _ _⟩
    · exact own_blk_ne t3 h.bc (by decide) (by rw [e]; rfl)
    · exact own_blk_ne t3 h.bw (by decide) (by rw [e]; rfl)
theorem Mut.edge (h : Mut B1 B2 g5 g6 w vc vw x wr) (hb : MutB B1 B2 w vc x) {g : Nat} (hg : vc.ea = some ⟨g, 0, none⟩) {k : Nat} (hk : k < x.edges.length) :
    (∃ z : Int, wr.cell? ⟨g, k * 23 + 1, none⟩ = some (.int .i64 z)) ∧ wr.frozen? ⟨g, k * 23 + 1, none⟩ = false ∧ ∀ z : Int, Mut B1 B2 g5 g6 w vc vw x (wr.setCell ⟨g, k * 23 + 1, none⟩ (.int .i64 z)) := by
  obtain ⟨es, e1, e2, e3⟩ := h.edges
  rw [hg] at e3
  have hlt := e3.lt g rfl
  have hB2 : g < B2 := hb.un.ea _ hg
  have hkt : k < es.length := by omega
  have hcl : ∀ e ∈ es, (edgCells e).length = 23 := fun e he => edgCells_len (e2 e he).1 (e2 e he).2
  refine ⟨⟨es[k].to, ?_⟩, e3.frozenAt _, fun z => ?_⟩
  · rw [e3.cellAt _ (by omega), flat_at es hcl k 1 hkt (by decide)]; rfl
  · have st := (e3.stored (k * 23 + 1) (.int .i64 z)).1
    rw [flat_set es hcl k 1 hkt (by decide) { es[k] with to := z } _ rfl] at st
    obtain ⟨ts, t1, t2, t3⟩ := h.tasks
    obtain ⟨ms, m1, m2, m3⟩ := h.modes
    refine ⟨⟨ts, t1, t2, own_other t3 e3 (by decide) _ _⟩, ⟨es.set k { es[k] with to := z }, by simp [e1], fun e he => ?_, by rw [hg]; exact st⟩, ⟨ms, m1, m2, own_other m3 e3 (by decide) _ _⟩, fun i a b => ?_, h.bc.far (fun e => ?_) _, h.bw.far (fun e => ?_) _,
      h.was.keep (keep_set _ _ _ _) (by simpa using hB2), h.keep.setCell (fun hh => by have := hb.lo; simp at hh; omega) _⟩
    · rcases List.mem_or_eq_of_mem_set he with h1 | rfl
      · exact e2 e h1
      · exact e2 es[k] (List.getElem_mem hkt)
    · obtain ⟨qs, q1, q2⟩ := h.queues i a b
      exact ⟨qs, q1, own_other q2 e3 (by decide) _ _⟩
    · exact own_blk_ne e3 h.bc (by decide) (by rw [e]; rfl)
    · exact own_blk_ne e3 h.bw (by decide) (by rw [e]; rfl)
theorem Mut.mode (h : Mut B1 B2 g5 g6 w vc vw x wr) (hb : MutB B1 B2 w vc x) {g : Nat} (hg : vc.ma = some ⟨g, 0, none⟩) {k : Nat} (hk : k < x.modes.length) (hk' : k < vc.qa.length) :
    (∃ z : Nat, z < 4294967296 ∧ wr.cell? ⟨g, k * 2, none⟩ = some (.int .u32 (z : Int))) ∧ wr.cell? ⟨g, k * 2 + 1, none⟩ = some (.slice vc.qa[k].1 x.modes[k].qs.length vc.qa[k].2) ∧ wr.frozen? ⟨g, k * 2, none⟩ = false ∧
      ∀ z : Nat, z < 4294967296 → Mut B1 B2 g5 g6 w vc vw x (wr.setCell ⟨g, k * 2, none⟩ (.int .u32 (z : Int))) := by
  obtain ⟨ms, m1, m2, m3⟩ := h.modes
  rw [hg] at m3
  have hlt := m3.lt g rfl
  have hB2 : g < B2 := hb.un.ma _ hg
  have hml : ms.length = x.modes.length := by simpa using congrArg List.length m1
  have hkm : k < ms.length := by omega
  have hql : vc.qa.length = ms.length := by rw [hb.ql, hml]
  have hqs : ms[k].qs = x.modes[k].qs := by
    have := congrArg (fun l => l[k]?) m1
    simpa [List.getElem?_map, List.getElem?_eq_getElem hkm, List.getElem?_eq_getElem hk] using this
  refine ⟨⟨ms[k].set, m2 _ (List.getElem_mem hkm), ?_⟩, ?_, m3.frozenAt _, fun z hz => ?_⟩
  · rw [m3.cellAt _ (by omega), rowM_at0 ms vc.qa hql k hkm]
  · rw [m3.cellAt _ (by omega), rowM_at ms vc.qa hql k hkm, hqs]
  · have st := (m3.stored (k * 2) (.int .u32 (z : Int))).1
    rw [rowM_set0 ms vc.qa k z hql hkm] at st
    obtain ⟨ts, t1, t2, t3⟩ := h.tasks
    obtain ⟨es, e1, e2, e3⟩ := h.edges
    refine ⟨⟨ts, t1, t2, own_other t3 m3 (by decide) _ _⟩, ⟨es, e1, e2, own_other e3 m3 (by decide) _ _⟩, ⟨ms.set k ⟨z, ms[k].qs⟩, ?_, fun m hm => ?_, by rw [hg]; exact st⟩, fun i a b => ?_, h.bc.far (fun e => ?_) _, h.bw.far (fun e => ?_) _,
      h.was.keep (keep_set _ _ _ _) (by simpa using hB2), h.keep.setCell (fun hh => by have := hb.lo; simp at hh; omega) _⟩
    · rw [List.map_set, ← m1]
      apply List.ext_getElem (by simp)
      intro i hi hi'
      rw [List.getElem_set]
      split
      · rename_i e; subst e; simp
      · rfl
    · rcases List.mem_or_eq_of_mem_set hm with h1 | rfl
      · exact m2 m h1
      · exact hz
    · obtain ⟨qs, q1, q2⟩ := h.queues i a b
      exact ⟨qs, q1, own_other q2 m3 (by decide) _ _⟩
    · exact own_blk_ne m3 h.bc (by decide) (by rw [e]; rfl)
    · exact own_blk_ne m3 h.bw (by decide) (by rw [e]; rfl)
/-- A store of a number as a queue's room: a row of queues stays one. -/
theorem que_stored {w : World} {B : Nat} {A : Option Addr} {n c : Nat} {qs : List Que} (h : w.ownsRow B 50 2 (.slice A n c) n (qs.flatMap queCells)) (hn : qs.length = n) (g k : Nat) (z : Int) :
    ∃ qs' : List Que, qs'.length = n ∧ (w.setCell ⟨g, k * 2, none⟩ (.int .i64 z)).ownsRow B 50 2 (.slice A n c) n (qs'.flatMap queCells) := by
  by_cases hg : (Value.slice A n c).ownBlock = some g
  · rcases h.2 with ⟨hv, _⟩ | ⟨b, cap, cur, hv, _⟩
    · rw [hv] at hg; simp [Value.ownBlock] at hg
    · rw [hv] at hg
      simp only [Value.ownBlock, Option.some.injEq] at hg
      subst hg
      injection hv with h1 _ h3
      subst h1
      subst h3
      have st := (h.stored (k * 2) (.int .i64 z)).1
      by_cases hk : k < qs.length
      · have := flat_set (cells := queCells) (size := 2) qs (fun q _ => rfl) k 0 hk (by decide) { qs[k] with cap := z } (.int .i64 z) rfl
        rw [Nat.add_zero] at this
        rw [this] at st
        exact ⟨_, by simp [hn], st⟩
      · rw [List.set_eq_of_length_le (by rw [flat_len (cells := queCells) (size := 2) qs (fun q _ => rfl)]; omega)] at st
        exact ⟨qs, hn, st⟩
  · exact ⟨qs, hn, own_keep h (keep_set _ _ _ _) (fun b hb hm => by simp at hm; subst hm; exact hg hb)⟩
theorem Mut.queue (h : Mut B1 B2 g5 g6 w vc vw x wr) (hb : MutB B1 B2 w vc x) {i : Nat} (hi : i < x.modes.length) (hi' : i < vc.qa.length) {g : Nat} (hg : vc.qa[i].1 = some ⟨g, 0, none⟩) {k : Nat} (hk : k < x.modes[i].qs.length) :
    (∃ z : Int, wr.cell? ⟨g, k * 2, none⟩ = some (.int .i64 z)) ∧ wr.frozen? ⟨g, k * 2, none⟩ = false ∧ ∀ z : Int, Mut B1 B2 g5 g6 w vc vw x (wr.setCell ⟨g, k * 2, none⟩ (.int .i64 z)) := by
  obtain ⟨qs, q1, q2⟩ := h.queues i hi hi'
  rw [hg] at q2
  have hlt := q2.lt g rfl
  have hB2 : g < B2 := hb.un.qa _ (List.getElem_mem hi') _ hg
  have hkq : k < qs.length := by omega
  refine ⟨⟨qs[k].cap, ?_⟩, q2.frozenAt _, fun z => ?_⟩
  · have := flat_at (cells := queCells) (size := 2) qs (fun q _ => rfl) k 0 hkq (by decide)
    rw [Nat.add_zero] at this
    rw [q2.cellAt _ (by omega), this]; rfl
  · obtain ⟨ts, t1, t2, t3⟩ := h.tasks
    obtain ⟨es, e1, e2, e3⟩ := h.edges
    obtain ⟨ms, m1, m2, m3⟩ := h.modes
    refine ⟨⟨ts, t1, t2, own_other t3 q2 (by decide) _ _⟩, ⟨es, e1, e2, own_other e3 q2 (by decide) _ _⟩, ⟨ms, m1, m2, own_other m3 q2 (by decide) _ _⟩, fun j a b => ?_, h.bc.far (fun e => ?_) _, h.bw.far (fun e => ?_) _,
      h.was.keep (keep_set _ _ _ _) (by simpa using hB2), h.keep.setCell (fun hh => by have := hb.lo; simp at hh; omega) _⟩
    · obtain ⟨qs', r1, r2⟩ := h.queues j a b
      exact que_stored r2 r1 g k z
    · exact own_blk_ne q2 h.bc (by decide) (by rw [e]; rfl)
    · exact own_blk_ne q2 h.bw (by decide) (by rw [e]; rfl)
end
end Go.Proofs.Ytajlkfhekligeaa
