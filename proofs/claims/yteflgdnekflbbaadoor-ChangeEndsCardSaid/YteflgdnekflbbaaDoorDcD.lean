/- The document's engine in memory; the end of a change without another mode asked for; walked. No condition. The document's end of a change without another mode asked for; walked. No condition. The document's coming of a mode; walked. Condition: what over does then. The document's beginning of a change; walked. Condition: what come does then. -/
import Derived.Test.YteflgdnekflbbaaDoorEng
import Derived.Test.YteflgdnekflbbaaDoorFldRun
import Derived.Test.YteflgdnekflbbaaDoorRangeB
namespace Go.Proofs.YteflgdnekflbbaaDoor
open Go.RowKit
attribute [local go_sem] Oper.semAt_some

/-- Where the document's engine keeps its image and spans. -/
structure DcV where
  v : ImgV
  la : Option Addr
  lc : Nat
  sa : Option Addr
  sc : Nat
def dcL (V : DcV) (X : ChX) (d : DcS) : List Value :=
  [.int .i64 X.x.res, .slice V.v.ta X.x.tasks.length V.v.tc, .slice V.v.ma X.x.modes.length V.v.mc, .slice V.v.ea X.x.edges.length V.v.ec, .slice V.la X.lat.length V.lc, .slice V.sa X.stl.length V.sc,
   .int .i64 (d.mode : Int), .int .i64 (optI d.edge), .int .i64 (d.ph : Int), .int .i64 (d.now : Int), .int .i64 (d.since : Int), .int .i64 (d.due : Int), .int .i64 (optI d.held)]
theorem dcL_len (V : DcV) (X : ChX) (d : DcS) : (dcL V X d).length = 13 := rfl
theorem dcL_one (V : DcV) (X : ChX) (d : DcS) : ∀ u ∈ dcL V X d, u.oneCell' = true := fun u hu => by
  simp only [dcL, List.mem_cons, List.not_mem_nil, or_false] at hu
  rcases hu with rfl | rfl | rfl | rfl | rfl | rfl | rfl | rfl | rfl | rfl | rfl | rfl | rfl <;> rfl
def zE30 : List Value := [.int .i64 0, .slice none 0 0, .slice none 0 0, .slice none 0 0, .slice none 0 0, .slice none 0 0, .int .i64 0, .int .i64 0, .int .i64 0, .int .i64 0, .int .i64 0, .int .i64 0, .int .i64 0]
theorem agg_E30 : AggOf Tryd.prog 31 13 := ⟨by kernel_rfl, by kernel_rfl⟩
def dnCells (n : Nw) : List Value := [.int .i64 (n.kind : Int), .int .i64 (n.edge : Int), .int .i64 (n.mode : Int), .int .i64 (n.ticks : Int)]
def dnV (L : List Nw) : List Value := L.flatMap dnCells
theorem dn_one (n : Nw) : ∀ u ∈ dnCells n, u.oneCell' = true := fun u hu => by
  simp only [dnCells, List.mem_cons, List.not_mem_nil, or_false] at hu
  rcases hu with rfl | rfl | rfl | rfl <;> rfl
structure DcX (W0 : World) (V : DcV) (X : ChX) : Prop where
  img : ∀ w', Keep [] W0 w' → ImgAt w' V.v X.x
  lat : ∀ w', Keep [] W0 w' → Reads w' 1 V.la X.lat.length (natI X.lat)
  stl : ∀ w', Keep [] W0 w' → Reads w' 1 V.sa X.stl.length (natI X.stl)
  ll : X.lat.length = X.x.edges.length
  sl : X.stl.length = X.x.edges.length
section
variable {w : World} {g : Nat} {V : DcV} {X : ChX} {d : DcS}
theorem dc_cells (h : Blk w g 31 (dcL V X d).toArray) :
    (w.cell? ⟨g, 2, none⟩ = some (.slice V.v.ma X.x.modes.length V.v.mc) ∧ w.cell? ⟨g, 3, none⟩ = some (.slice V.v.ea X.x.edges.length V.v.ec) ∧ w.cell? ⟨g, 4, none⟩ = some (.slice V.la X.lat.length V.lc) ∧ w.cell? ⟨g, 5, none⟩ = some (.slice V.sa X.stl.length V.sc)) ∧
    (w.cell? ⟨g, 6, none⟩ = some (.int .i64 (d.mode : Int)) ∧ w.cell? ⟨g, 7, none⟩ = some (.int .i64 (optI d.edge)) ∧ w.cell? ⟨g, 8, none⟩ = some (.int .i64 (d.ph : Int)) ∧ w.cell? ⟨g, 9, none⟩ = some (.int .i64 (d.now : Int))) ∧
    w.cell? ⟨g, 10, none⟩ = some (.int .i64 (d.since : Int)) ∧ w.cell? ⟨g, 11, none⟩ = some (.int .i64 (d.due : Int)) ∧ w.cell? ⟨g, 12, none⟩ = some (.int .i64 (optI d.held)) := by
  refine ⟨⟨?_, ?_, ?_, ?_⟩, ⟨?_, ?_, ?_, ?_⟩, ?_, ?_, ?_⟩ <;> (rw [h.cell]; rfl)
theorem dc_img (h : Blk w g 31 (dcL V X d).toArray) : CellsAt w g 0 (imgCells V.v X.x) := fun j u hu => by
  rw [h.cell, Nat.zero_add]
  match j with
  | 0 => exact hu
  | 1 => exact hu
  | 2 => exact hu
  | 3 => exact hu
  | j + 4 => simp [imgCells] at hu
theorem dc_put {d' : DcS} (h : Blk w g 31 (dcL V X d).toArray) (i : Nat) (u : Value) (hc : (dcL V X d).toArray.setIfInBounds i u = (dcL V X d').toArray) : Blk (w.setCell ⟨g, i, none⟩ u) g 31 (dcL V X d').toArray := by
  have := h.set_ i u
  rw [hc] at this
  exact this
end
theorem dnV_one (L : List Nw) : ∀ u ∈ dnV L, u.oneCell' = true := fun u hu => by
  obtain ⟨n, _, hn⟩ := List.mem_flatMap.1 hu
  exact dn_one n u hn
/-- Two results, the first one in cells. -/
theorem results_blk_tmpD {P : Program} {w : World} {fn : Func} {p q : Tmp} {ty : TypeId} (h : fn.results = #[.cell p ty, .tmp q]) (tmps : Array Value) {g t : Nat} {vs : List Value} {v : Value} (hp : tmps.getD p undef = .pointer (some ⟨g, 0, none⟩)) (hq : tmps.getD q undef = v)
    (hb : Blk w g t vs.toArray) (hA : AggOf P ty vs.length) : (results fn tmps).run P w = .ok (.tuple #[.agg vs.toArray, v]) w := by
  have hp' : tmps[p]?.getD undef = .pointer (some ⟨g, 0, none⟩) := by simpa using hp
  have hq' : tmps[q]?.getD undef = v := by simpa using hq
  have hc : CellsAt w g 0 vs := fun j u hu => by rw [Nat.zero_add, hb.cell]; simpa using hu
  simp [results, h, hp', hq', asAddr, run_loadVar_agg hA hc]
section
variable {W0 w W W' : World} {F : List Nat} {V : DcV} {X : ChX} {d d' : DcS} {g g2 : Nat} {A : Option Addr} {n p : Nat} {xs : List Value}
theorem app_rb {v v' : Value} {W : World} (h : v'.ownBlock = v.ownBlock ∨ v'.ownBlock = some W.heap.size) : ∀ y ∈ v'.ownBlock.toList, y ∈ v.ownBlock.toList ∨ W.heap.size ≤ y := fun y hy => by
  rcases h with e | e
  · rw [e] at hy; exact .inl hy
  · rw [e] at hy; simp at hy; exact .inr (by omega)
end
end Go.Proofs.YteflgdnekflbbaaDoor

namespace Go.Proofs.YteflgdnekflbbaaDoor
open Go.RowKit
attribute [local go_sem] Oper.semAt_some

section
variable {W0 w : World} {V : DcV} {X : ChX} {d : DcS} {A : Option Addr} {n p : Nat} {xs : List Value}
end
end Go.Proofs.YteflgdnekflbbaaDoor

namespace Go.Proofs.YteflgdnekflbbaaDoor
open Go.RowKit
attribute [local go_sem] Oper.semAt_some

theorem DcX.edge {W0 : World} {V : DcV} {X : ChX} (h : DcX W0 V X) {k : Nat} (hk : k < X.x.edges.length) : ∃ bb o, V.v.ea = some ⟨bb, o, none⟩ ∧ ∀ w', Keep [] W0 w' → CellsAt w' bb (o + k * 23) (edgCells (edg X.x k)) := by
  obtain ⟨bb, o, hA, hb, hc⟩ := (h.img W0 (Keep.refl _ _)).edge (by omega)
  refine ⟨bb, o, hA, fun w' kk => ?_⟩
  have e : edg X.x k = X.x.edges[k] := by unfold edg; rw [List.getElem?_eq_getElem hk]; rfl
  rw [e]
  exact (hc k hk).keep0 kk hb
theorem row_nat {W0 : World} {A : Option Addr} {l : List Nat} (h : ∀ w', Keep [] W0 w' → Reads w' 1 A l.length (natI l)) {k : Nat} (hk : k < l.length) : ∃ bb o, A = some ⟨bb, o, none⟩ ∧ ∀ w', Keep [] W0 w' → w'.cell? ⟨bb, o + k, none⟩ = some (.int .i64 (l.getD k 0 : Int)) := by
  obtain ⟨bb, o, u, hA, hb, hu, hc⟩ := (h W0 (Keep.refl _ _)).at_ hk
  refine ⟨bb, o, hA, fun w' kk => ?_⟩
  have e : u = .int .i64 (l.getD k 0 : Int) := by
    unfold natI at hu
    rw [List.getElem?_map, List.getElem?_eq_getElem hk] at hu
    rw [List.getD_eq_getElem?_getD, List.getElem?_eq_getElem hk]
    exact (Option.some.inj hu).symm
  rw [← e]
  exact (kk.cell (p := ⟨bb, o + k, none⟩) hb (by simp)).trans hc
section
variable {W0 w : World} {V : DcV} {X : ChX} {d : DcS} {A : Option Addr} {n p : Nat} {xs : List Value}
end
end Go.Proofs.YteflgdnekflbbaaDoor

namespace Go.Proofs.YteflgdnekflbbaaDoor
open Go.RowKit
attribute [local go_sem] Oper.semAt_some

section
variable {W0 w : World} {V : DcV} {X : ChX} {d : DcS} {A : Option Addr} {n p : Nat} {xs : List Value}
end
end Go.Proofs.YteflgdnekflbbaaDoor
