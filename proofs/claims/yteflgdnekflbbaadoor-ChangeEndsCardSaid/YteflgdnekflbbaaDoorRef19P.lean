/- The document on changes (layer 19): the tasks of an edge's modes, offsets, times behind. Condition: small numbers. The document on changes (layer 19): a task's window. Condition: small numbers. The document on changes (layer 19): who may be late, and how long a change takes. Condition: small numbers. -/
import Derived.Test.YteflgdnekflbbaaDoorWinPlain
import Derived.Test.YteflgdnekflbbaaDoorImgMem
namespace Go.Proofs.YteflgdnekflbbaaDoor
open Go.RowKit

/-- An edge of an image, and the sets of its modes. -/
structure EdgeIn (x : Img) (k f t : Nat) : Prop where
  lt : k < x.edges.length
  ex : ∃ a b, ∃ (ha : a < x.modes.length) (hb : b < x.modes.length), x.edges[k].frm = (a : Int) ∧ x.edges[k].to = (b : Int) ∧ x.modes[a].set = f ∧ x.modes[b].set = t
theorem EdgeIn.f_lt {x : Img} {k f t : Nat} (h : EdgeIn x k f t) (hx : x.Ok) : f < 4294967296 := by
  obtain ⟨a, b, ha, hb, _, _, rfl, _⟩ := h.ex
  exact hx.set _ (List.getElem_mem ha)
theorem EdgeIn.t_lt {x : Img} {k f t : Nat} (h : EdgeIn x k f t) (hx : x.Ok) : t < 4294967296 := by
  obtain ⟨a, b, ha, hb, _, _, _, rfl⟩ := h.ex
  exact hx.set _ (List.getElem_mem hb)
theorem agg_edge23 : AggOf Tryd.prog 93 23 := ⟨by kernel_rfl, by kernel_rfl⟩
end Go.Proofs.YteflgdnekflbbaaDoor

namespace Go.Proofs.YteflgdnekflbbaaDoor
open Go.RowKit

theorem slice_intW : SliceOf Tryd.prog 29 3 1 8 := ⟨Tryd.underlying29, by kernel_rfl, by decide⟩
def natsV (l : List Nat) : List Value := l.map (fun (n : Nat) => Value.int .i64 (n : Int))
theorem natsV_len (l : List Nat) : (natsV l).length = l.length := by simp [natsV]
/-- A row of numbers of the call's own is returned. -/
def RetNats (w : World) (l : List Nat) (e : Ending) (w' : World) : Prop :=
  ∃ A c, e = .returned (.slice A l.length c) ∧ w'.ownsRow w.heap.size 3 1 (.slice A l.length c) l.length (natsV l) ∧ Keep [] w w'
theorem lateRL_succ (x : Img) (f t : Nat) (L : List Int) (n : Nat) : lateRL x f t L (n + 1) = lateRL x f t L n ++ (if lateR x f t L n = true then [n] else []) := by
  unfold lateRL
  rw [List.range_succ, List.filter_append]
  cases h : lateR x f t L n <;> simp [h]
theorem lateRL_le (x : Img) (f t : Nat) (L : List Int) (n : Nat) : (lateRL x f t L n).length ≤ n := by
  have := List.length_filter_le (lateR x f t L) (List.range n)
  simpa [lateRL] using this
def tripRes (o : Option (Int × Int)) : Value := .tuple #[.int .i64 (o.getD (0, 0)).1, .int .i64 (o.getD (0, 0)).2, .bool o.isSome]
theorem spanRI_succ (x : Img) (f t : Nat) (L : List Int) (n : Nat) : spanRI x f t L (n + 1) = stepR x f t L (spanRI x f t L n) n := by
  unfold spanRI
  rw [List.range_succ, List.foldl_append]; rfl
end Go.Proofs.YteflgdnekflbbaaDoor
