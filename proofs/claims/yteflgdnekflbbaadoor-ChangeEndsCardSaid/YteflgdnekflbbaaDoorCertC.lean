/- Certificates in memory, and their words. No condition. -/
import Derived.Test.YteflgdnekflbbaaDoorRangeB
import Derived.Test.YteflgdnekflbbaaDoorMaskAll
import Derived.Test.YteflgdnekflbbaaDoorCwRight
import Derived.Test.YteflgdnekflbbaaDoorMode
namespace Go.Proofs.YteflgdnekflbbaaDoor
open Go.RowKit

/-- What is known of an image. -/
structure Crt where
  modes : List (List RowM)
  edges : List (Int × Int)
/-- Where a certificate's parts lie. -/
structure CrtV where
  ma : Option Addr
  mc : Nat
  ea : Option Addr
  ec : Nat
def crtCells (v : CrtV) (c : Crt) : List Value := [.slice v.ma c.modes.length v.mc, .slice v.ea c.edges.length v.ec]
def spnCells (s : Int × Int) : List Value := [.int .i64 s.1, .int .i64 s.2]
structure CrtAt (w : World) (v : CrtV) (c : Crt) : Prop where
  modes : ∃ vs : List Value, vs.length = c.modes.length ∧ Reads w 1 v.ma c.modes.length vs ∧ ∀ i, (h : i < c.modes.length) → ∃ A cp, vs[i]? = some (.slice A c.modes[i].length cp) ∧ Reads w 3 A c.modes[i].length (c.modes[i].flatMap rowCells)
  edges : Reads w 2 v.ea c.edges.length (c.edges.flatMap spnCells)
  lm : c.modes.length ≤ 100
  le : c.edges.length ≤ 100
  lr : ∀ r ∈ c.modes, r.length ≤ 100
theorem CrtAt.keep0 {w w' : World} {v : CrtV} {c : Crt} (h : CrtAt w v c) (k : Keep [] w w') : CrtAt w' v c := by
  obtain ⟨vs, h1, h2, h3⟩ := h.modes
  exact ⟨⟨vs, h1, h2.keep0 k, fun i hi => (h3 i hi).imp fun A => fun ⟨cp, a, b⟩ => ⟨cp, a, b.keep0 k⟩⟩, h.edges.keep0 k, h.lm, h.le, h.lr⟩
theorem CrtAt.mode {w : World} {v : CrtV} {c : Crt} (h : CrtAt w v c) (hp : 0 < c.modes.length) : ∃ b o, v.ma = some ⟨b, o, none⟩ ∧ b < w.heap.size ∧
    ∀ k, (hk : k < c.modes.length) → ∃ A cp, w.cell? ⟨b, o + k, none⟩ = some (.slice A c.modes[k].length cp) ∧ Reads w 3 A c.modes[k].length (c.modes[k].flatMap rowCells) := by
  obtain ⟨vs, h1, h2, h3⟩ := h.modes
  obtain ⟨b, o, e, hb, hc⟩ := h2.addr hp
  refine ⟨b, o, e, hb, fun k hk => ?_⟩
  obtain ⟨A, cp, ha, hr⟩ := h3 k hk
  exact ⟨A, cp, hc k _ ha, hr⟩
/-- A certificate's words. -/
def rowT (r : RowM) : List Int := [r.task, r.block, r.resp]
def rowsW (l : List RowM) : List Int := (l.length : Int) :: l.flatMap rowT
def spnW (s : Int × Int) : List Int := [s.1, s.2]
def wordsC (c : Crt) : List Int := (c.modes.length : Int) :: (c.modes.flatMap rowsW ++ ((c.edges.length : Int) :: c.edges.flatMap spnW))
theorem agg_cert : AggOf Tryd.prog 54 2 := ⟨by kernel_rfl, by kernel_rfl⟩
theorem take_flat {α β : Type} (f : α → List β) (l : List α) (k : Nat) (h : k < l.length) : (l.take (k + 1)).flatMap f = (l.take k).flatMap f ++ f l[k] := by
  rw [List.take_succ_eq_append_getElem h, List.flatMap_append]; simp
theorem drop_flat {α β : Type} (f : α → List β) (l : List α) (k : Nat) (h : k < l.length) : l.flatMap f = (l.take k).flatMap f ++ (f l[k] ++ (l.drop (k + 1)).flatMap f) := by
  conv => lhs; rw [← List.take_append_drop k l, List.drop_eq_getElem_cons h]
  rw [List.flatMap_append, List.flatMap_cons]
end Go.Proofs.YteflgdnekflbbaaDoor
