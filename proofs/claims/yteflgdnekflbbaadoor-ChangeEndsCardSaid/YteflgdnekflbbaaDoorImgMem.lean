/- Where an image lies in memory: its slices of tasks, modes (each with a slice of queues) and edges; no condition. -/
import Derived.Test.YteflgdnekflbbaaDoorRows
import Derived.Test.YteflgdnekflbbaaDoorImgPlain
import Derived.Test.YteflgdnekflbbaaDoorReg
import Derived.Test.YteflgdnekflbbaaDoorEqI
namespace Go.Proofs.YteflgdnekflbbaaDoor
open Go.RowKit

section
variable {α : Type} {cells : α → List Value} {size : Nat}
theorem flat_len : ∀ (l : List α), (∀ a ∈ l, (cells a).length = size) → (l.flatMap cells).length = l.length * size
  | [], _ => by simp
  | a :: l, h => by
    rw [List.flatMap_cons, List.length_append, h a (by simp), flat_len l (fun b hb => h b (by simp [hb])), List.length_cons, Nat.add_mul]; omega
theorem flat_at : ∀ (l : List α), (∀ a ∈ l, (cells a).length = size) → ∀ (k j : Nat) (hk : k < l.length), j < size → (l.flatMap cells)[k * size + j]? = (cells l[k])[j]?
  | [], _, k, j, hk, hj => by simp at hk
  | a :: l, h, k, j, hk, hj => by
    have ha := h a (by simp)
    rw [List.flatMap_cons]
    cases k with
    | zero => rw [List.getElem?_append_left (by omega)]; simp
    | succ k =>
      rw [List.getElem?_append_right (by rw [ha, Nat.add_mul]; omega), ha, show (k + 1) * size + j - size = k * size + j by rw [Nat.add_mul]; omega]
      simpa using flat_at l (fun b hb => h b (by simp [hb])) k j (by simpa using hk) hj
/-- An element of a slice: where it lies. -/
theorem Reads.elem {w : World} {A : Option Addr} {n : Nat} {l : List α} (h : Reads w size A n (l.flatMap cells)) (hn : l.length = n) (hs : ∀ a ∈ l, (cells a).length = size) :
    ∀ k, (hk : k < l.length) → ∃ b o, A = some ⟨b, o, none⟩ ∧ b < w.heap.size ∧ CellsAt w b (o + k * size) (cells l[k]) := by
  intro k hk
  obtain ⟨b, o, e, hb, hc⟩ := h.addr (by omega)
  refine ⟨b, o, e, hb, fun j u hu => ?_⟩
  have hj : j < size := by rw [← hs l[k] (List.getElem_mem hk)]; exact (List.getElem?_eq_some_iff.1 hu).1
  rw [Nat.add_assoc]
  exact hc _ _ ((flat_at l hs k j hk hj).trans hu)
/-- All elements: one base. -/
theorem Reads.elems {w : World} {A : Option Addr} {n : Nat} {l : List α} (h : Reads w size A n (l.flatMap cells)) (_hn : l.length = n) (hs : ∀ a ∈ l, (cells a).length = size) (h0 : 0 < n) :
    ∃ b o, A = some ⟨b, o, none⟩ ∧ b < w.heap.size ∧ ∀ k, (hk : k < l.length) → CellsAt w b (o + k * size) (cells l[k]) := by
  obtain ⟨b, o, e, hb, hc⟩ := h.addr h0
  refine ⟨b, o, e, hb, fun k hk j u hu => ?_⟩
  have hj : j < size := by rw [← hs l[k] (List.getElem_mem hk)]; exact (List.getElem?_eq_some_iff.1 hu).1
  rw [Nat.add_assoc]
  exact hc _ _ ((flat_at l hs k j hk hj).trans hu)
end
theorem CellsAt.keep {w w' : World} {b o : Nat} {cs : List Value} {F : List Nat} (h : CellsAt w b o cs) (k : Keep F w w') (hb : b < w.heap.size) (hF : b ∉ F) : CellsAt w' b o cs :=
  fun j u hu => (k.cell (p := ⟨b, o + j, none⟩) hb hF).trans (h j u hu)
theorem CellsAt.keep0 {w w' : World} {b o : Nat} {cs : List Value} (h : CellsAt w b o cs) (k : Keep [] w w') (hb : b < w.heap.size) : CellsAt w' b o cs := h.keep k hb (by simp)

def tskInts (t : Tsk) : List Int := t.per :: t.ded :: t.cost :: t.lon
def queInts (q : Que) : List Int := [q.cap, q.pol]
def edgInts (e : Edg) : List Int := e.frm :: e.to :: e.prot :: (e.offs ++ e.mp)
def tskCells (t : Tsk) : List Value := iv (tskInts t)
def queCells (q : Que) : List Value := iv (queInts q)
def edgCells (e : Edg) : List Value := iv (edgInts e)
/-- A mode's cells: its set, and where its queues lie (address and capacity). -/
def mddCells (m : Mdd × Option Addr × Nat) : List Value := [.int .u32 (m.1.set : Int), .slice m.2.1 m.1.qs.length m.2.2]

/-- Where an image's parts lie. -/
structure ImgV where
  ta : Option Addr
  tc : Nat
  ma : Option Addr
  mc : Nat
  ea : Option Addr
  ec : Nat
  qa : List (Option Addr × Nat)
def imgCells (v : ImgV) (x : Img) : List Value := [.int .i64 x.res, .slice v.ta x.tasks.length v.tc, .slice v.ma x.modes.length v.mc, .slice v.ea x.edges.length v.ec]
abbrev imgVal (v : ImgV) (x : Img) : Value := .agg (imgCells v x).toArray

structure ImgAt (w : World) (v : ImgV) (x : Img) : Prop where
  ok : x.Ok
  ql : v.qa.length = x.modes.length
  tasks : Reads w 11 v.ta x.tasks.length (x.tasks.flatMap tskCells)
  modes : Reads w 2 v.ma x.modes.length ((x.modes.zip v.qa).flatMap mddCells)
  edges : Reads w 23 v.ea x.edges.length (x.edges.flatMap edgCells)
  queues : ∀ i, (h : i < x.modes.length) → (h' : i < v.qa.length) → Reads w 2 v.qa[i].1 x.modes[i].qs.length (x.modes[i].qs.flatMap queCells)
  lt : x.tasks.length ≤ maxLen
  lm : x.modes.length ≤ maxLen
  le : x.edges.length ≤ maxLen
  lq : ∀ m ∈ x.modes, m.qs.length ≤ maxLen

section
variable {w w' : World} {v : ImgV} {x : Img}
theorem ImgAt.keep0 (h : ImgAt w v x) (k : Keep [] w w') : ImgAt w' v x :=
  ⟨h.ok, h.ql, h.tasks.keep0 k, h.modes.keep0 k, h.edges.keep0 k, fun i hi hi' => (h.queues i hi hi').keep0 k, h.lt, h.lm, h.le, h.lq⟩
theorem tskCells_len {t : Tsk} (h : t.lon.length = 8) : (tskCells t).length = 11 := by simp [tskCells, tskInts, h]
theorem edgCells_len {e : Edg} (h : e.offs.length = 16) (h' : e.mp.length = 4) : (edgCells e).length = 23 := by simp [edgCells, edgInts, h, h']
theorem ImgAt.task (h : ImgAt w v x) (h0 : 0 < x.tasks.length) : ∃ b o, v.ta = some ⟨b, o, none⟩ ∧ b < w.heap.size ∧ ∀ k, (hk : k < x.tasks.length) → CellsAt w b (o + k * 11) (tskCells x.tasks[k]) :=
  h.tasks.elems rfl (fun t ht => tskCells_len (h.ok.lon t ht)) h0
theorem ImgAt.edge (h : ImgAt w v x) (h0 : 0 < x.edges.length) : ∃ b o, v.ea = some ⟨b, o, none⟩ ∧ b < w.heap.size ∧ ∀ k, (hk : k < x.edges.length) → CellsAt w b (o + k * 23) (edgCells x.edges[k]) :=
  h.edges.elems rfl (fun e he => edgCells_len (h.ok.offs e he) (h.ok.mp e he)) h0
theorem ImgAt.mode (h : ImgAt w v x) (h0 : 0 < x.modes.length) : ∃ b o, v.ma = some ⟨b, o, none⟩ ∧ b < w.heap.size ∧
    ∀ k, (hk : k < x.modes.length) → ∃ A c, CellsAt w b (o + k * 2) [.int .u32 (x.modes[k].set : Int), .slice A x.modes[k].qs.length c] ∧ Reads w 2 A x.modes[k].qs.length (x.modes[k].qs.flatMap queCells) := by
  have hl : (x.modes.zip v.qa).length = x.modes.length := by rw [List.length_zip, h.ql]; omega
  obtain ⟨b, o, e, hb, hc⟩ := h.modes.elems (l := x.modes.zip v.qa) hl (fun m _ => rfl) h0
  refine ⟨b, o, e, hb, fun k hk => ?_⟩
  have hk' : k < v.qa.length := by rw [h.ql]; exact hk
  have := hc k (by omega)
  rw [List.getElem_zip] at this
  exact ⟨_, _, this, h.queues k hk hk'⟩
end

theorem agg_image : AggOf Tryd.prog 26 4 := ⟨by kernel_rfl, by kernel_rfl⟩
theorem agg_task : AggOf Tryd.prog 88 11 := ⟨by kernel_rfl, by kernel_rfl⟩
theorem agg_mode : AggOf Tryd.prog 76 2 := ⟨by kernel_rfl, by kernel_rfl⟩
theorem agg_queue : AggOf Tryd.prog 130 2 := ⟨by kernel_rfl, by kernel_rfl⟩
theorem agg_edge : AggOf Tryd.prog 93 23 := ⟨by kernel_rfl, by kernel_rfl⟩
end Go.Proofs.YteflgdnekflbbaaDoor
