/- A copy of an image: in memory of its own. -/
import Derived.Test.YtoepkhkaifgddaaImgT
namespace Go.Proofs.Ytoepkhkaifgddaa
open Go.RowKit

abbrev rowM (ms : List Mdd) (qs : List (Option Addr × Nat)) : List Value := (ms.zip qs).flatMap mddCells
theorem rowM_len : ∀ (ms : List Mdd) (qs : List (Option Addr × Nat)), qs.length = ms.length → (rowM ms qs).length = ms.length * 2
  | ms, qs, h => by
    rw [rowM, flat_len (cells := mddCells) (size := 2) _ (fun m _ => rfl), List.length_zip, h]; simp
theorem rowM_set : ∀ (ms : List Mdd) (qs : List (Option Addr × Nat)) (i : Nat) (A : Option Addr) (c : Nat), qs.length = ms.length → (hi : i < ms.length) → (rowM ms qs).set (i * 2 + 1) (.slice A ms[i].qs.length c) = rowM ms (qs.set i (A, c))
  | [], qs, i, A, c, h, hi => by simp at hi
  | m :: ms, [], i, A, c, h, hi => by simp at h
  | m :: ms, q :: qs, i, A, c, h, hi => by
    cases i with
    | zero => rfl
    | succ i =>
      have := rowM_set ms qs i A c (by simpa using h) (by simpa using hi)
      simp only [rowM, List.zip_cons_cons, List.flatMap_cons, List.set_cons_succ, List.getElem_cons_succ] at this ⊢
      rw [← this, show (i + 1) * 2 + 1 = (i * 2 + 1) + 2 by omega]
      rfl
theorem rowM_at (ms : List Mdd) (qs : List (Option Addr × Nat)) (h : qs.length = ms.length) (i : Nat) (hi : i < ms.length) : (rowM ms qs)[i * 2 + 1]? = some (.slice (qs[i]'(by omega)).1 ms[i].qs.length (qs[i]'(by omega)).2) := by
  rw [rowM, flat_at (cells := mddCells) (size := 2) _ (fun m _ => rfl) i 1 (by rw [List.length_zip, h]; omega) (by decide), List.getElem_zip]; rfl
theorem rowM_at0 (ms : List Mdd) (qs : List (Option Addr × Nat)) (h : qs.length = ms.length) (i : Nat) (hi : i < ms.length) : (rowM ms qs)[i * 2]? = some (.int .u32 (ms[i].set : Int)) := by
  have := flat_at (cells := mddCells) (size := 2) (ms.zip qs) (fun m _ => rfl) i 0 (by rw [List.length_zip, h]; omega) (by decide)
  rw [Nat.add_zero] at this
  rw [rowM, this, List.getElem_zip]; rfl

/-- An image in memory of its own, from block B on. -/
structure CopyAt (B : Nat) (w : World) (v : ImgV) (x : Img) : Prop where
  ok : x.Ok
  ql : v.qa.length = x.modes.length
  tasks : w.ownsRow B 71 11 (.slice v.ta x.tasks.length v.tc) x.tasks.length (x.tasks.flatMap tskCells)
  modes : w.ownsRow B 80 2 (.slice v.ma x.modes.length v.mc) x.modes.length (rowM x.modes v.qa)
  edges : w.ownsRow B 76 23 (.slice v.ea x.edges.length v.ec) x.edges.length (x.edges.flatMap edgCells)
  queues : ∀ i, (h : i < x.modes.length) → (h' : i < v.qa.length) → w.ownsRow B 83 2 (.slice v.qa[i].1 x.modes[i].qs.length v.qa[i].2) x.modes[i].qs.length (x.modes[i].qs.flatMap queCells)
  lt : x.tasks.length ≤ maxLen
  lm : x.modes.length ≤ maxLen
  le : x.edges.length ≤ maxLen
  lq : ∀ m ∈ x.modes, m.qs.length ≤ maxLen
theorem CopyAt.img {B : Nat} {w : World} {v : ImgV} {x : Img} (h : CopyAt B w v x) : ImgAt w v x :=
  ⟨h.ok, h.ql, Reads.of_own h.tasks, Reads.of_own h.modes, Reads.of_own h.edges, fun i hi hi' => Reads.of_own (h.queues i hi hi'), h.lt, h.lm, h.le, h.lq⟩
theorem own_far {w w' : World} {base : Nat} {e : TypeId} {size n : Nat} {v : Value} {xs : List Value} {F : List Nat} (h : w.ownsRow base e size v n xs) (k : Keep F w w') (hF : ∀ g ∈ F, g < base) : w'.ownsRow base e size v n xs :=
  own_keep h k (fun g hg hm => by have := (h.lt g hg).1; have := hF g hm; omega)
theorem CopyAt.keep {B : Nat} {w w' : World} {v : ImgV} {x : Img} {F : List Nat} (h : CopyAt B w v x) (k : Keep F w w') (hF : ∀ g ∈ F, g < B) : CopyAt B w' v x :=
  ⟨h.ok, h.ql, own_far h.tasks k hF, own_far h.modes k hF, own_far h.edges k hF, fun i hi hi' => own_far (h.queues i hi hi') k hF, h.lt, h.lm, h.le, h.lq⟩
theorem CopyAt.keep0 {B : Nat} {w w' : World} {v : ImgV} {x : Img} (h : CopyAt B w v x) (k : Keep [] w w') : CopyAt B w' v x := h.keep k (by simp)

theorem slice_task : SliceOf Try.prog 22 71 11 88 := ⟨Try.underlying22, by kernel_rfl, by decide⟩
theorem slice_mode : SliceOf Try.prog 23 80 2 32 := ⟨Try.underlying23, by kernel_rfl, by decide⟩
theorem slice_edge : SliceOf Try.prog 24 76 23 184 := ⟨Try.underlying24, by kernel_rfl, by decide⟩
theorem slice_queue : SliceOf Try.prog 78 83 2 16 := ⟨Try.underlying78, by kernel_rfl, by decide⟩

theorem own_own_ne {w : World} {B B' : Nat} {e e' : TypeId} {size size' n n' : Nat} {v v' : Value} {xs xs' : List Value} (h : w.ownsRow B e size v n xs) (h' : w.ownsRow B' e' size' v' n' xs') (hne : e ≠ e') {g : Nat} (hg : v.ownBlock = some g) : v'.ownBlock ≠ some g := by
  intro hg'
  rcases h.2 with ⟨rfl, _⟩ | ⟨b, cap, cur, rfl, _, hh, _⟩
  · simp [Value.ownBlock] at hg
  · rcases h'.2 with ⟨rfl, _⟩ | ⟨b', cap', cur', rfl, _, hh', _⟩
    · simp [Value.ownBlock] at hg'
    · simp only [Value.ownBlock, Option.some.injEq] at hg hg'
      subst hg
      subst hg'
      rw [hh] at hh'
      injection hh' with e1
      injection e1 with _ e2
      exact hne e2
/-- The loop's state: the first k modes have queues of their own. -/
structure CpRel (B : Nat) (w wr : World) (v v' : ImgV) (x : Img) (k : Nat) : Prop where
  ql : v'.qa.length = x.modes.length
  tasks : wr.ownsRow B 71 11 (.slice v'.ta x.tasks.length v'.tc) x.tasks.length (x.tasks.flatMap tskCells)
  edges : wr.ownsRow B 76 23 (.slice v'.ea x.edges.length v'.ec) x.edges.length (x.edges.flatMap edgCells)
  modes : wr.ownsRow B 80 2 (.slice v'.ma x.modes.length v'.mc) x.modes.length (rowM x.modes v'.qa)
  done : ∀ j, j < k → (h1 : j < x.modes.length) → (h2 : j < v'.qa.length) → wr.ownsRow B 83 2 (.slice v'.qa[j].1 x.modes[j].qs.length v'.qa[j].2) x.modes[j].qs.length (x.modes[j].qs.flatMap queCells)
  todo : ∀ j, k ≤ j → v'.qa[j]? = v.qa[j]?
  keep : Keep [] w wr
def CopyRet (w : World) (x : Img) (e : Ending) (w' : World) : Prop := ∃ v', e = .returned (.agg (imgCells v' x).toArray) ∧ CopyAt w.heap.size w' v' x ∧ Keep [] w w'
theorem CpRel.later {B : Nat} {w wr w' : World} {v v' : ImgV} {x : Img} {k : Nat} (h : CpRel B w wr v v' x k) (hk : Keep [] wr w') : CpRel B w w' v v' x k :=
  ⟨h.ql, own_keep0 h.tasks hk, own_keep0 h.edges hk, own_keep0 h.modes hk, fun j a b c => own_keep0 (h.done j a b c) hk, h.todo, h.keep.then hk⟩
theorem flat_one {α : Type} {cells : α → List Value} (h : ∀ a, ∀ u ∈ cells a, u.oneCell' = true) (l : List α) : ∀ u ∈ l.flatMap cells, u.oneCell' = true := by
  intro u hu
  obtain ⟨a, _, ha⟩ := List.mem_flatMap.1 hu
  exact h a u ha
theorem mdd_one (m : Mdd × Option Addr × Nat) : ∀ u ∈ mddCells m, u.oneCell' = true := by
  intro u hu
  simp [mddCells] at hu
  rcases hu with rfl | rfl <;> rfl

end Go.Proofs.Ytoepkhkaifgddaa
