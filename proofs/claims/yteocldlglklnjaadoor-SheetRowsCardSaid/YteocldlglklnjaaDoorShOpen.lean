/- An argument that is a certificate, opened to its cells. No condition. -/
import Derived.Test.YteocldlglklnjaaDoorShGreat
namespace Go.Proofs.YteocldlglklnjaaDoor
open Go.ChangeShapes Go.WideShapes Go.ChangeAt Go.RowKit Go.Deep

theorem rI_rowC : RdI Tryd.prog 36 3 := rdI_struct Tryd.underlying36 (by kernel_rfl) ⟨rfl, 1, by kernel_rfl, rI_int, rfl, 1, by kernel_rfl, rI_int, rfl, 1, by kernel_rfl, rI_int, rfl⟩
theorem rI_spanC : RdI Tryd.prog 47 2 := rdI_struct Tryd.underlying47 (by kernel_rfl) ⟨rfl, 1, by kernel_rfl, rI_int, rfl, 1, by kernel_rfl, rI_int, rfl⟩
section
variable {H : Type} {enc : TypeId × Value → H} {w : World} {base : Nat} {spare : Nat → Bool} {held : Bool}
theorem rd_rowC {n : Nat} {cs : List Value} {x : DataW H × List MemPlace} (h : DataW.trod enc Tryd.prog w base spare held n 36 cs = some x) : ∃ r : RowM, cs = rowCells r ∧ True := by
  obtain ⟨xs, rfl, hl⟩ := rI_rowC.list h
  match xs, hl with
  | [a, b, c], _ => exact ⟨⟨a, b, c⟩, rfl, trivial⟩
theorem rd_spanC {n : Nat} {cs : List Value} {x : DataW H × List MemPlace} (h : DataW.trod enc Tryd.prog w base spare held n 47 cs = some x) : ∃ s : Int × Int, cs = spnCells s ∧ True := by
  obtain ⟨xs, rfl, hl⟩ := rI_spanC.list h
  match xs, hl with
  | [a, b], _ => exact ⟨(a, b), rfl, trivial⟩
abbrev RowsV := List RowM × Option Addr × Nat
def rvCells (a : RowsV) : List Value := [.slice a.2.1 a.1.length a.2.2]
theorem rv_flat (ms : List RowsV) : ms.flatMap rvCells = ms.map (fun a => Value.slice a.2.1 a.1.length a.2.2) := by
  induction ms with
  | nil => rfl
  | cons a l ih => rw [List.flatMap_cons, ih]; rfl
theorem rd_rowsC {n : Nat} {cs : List Value} {x : DataW H × List MemPlace} (h : DataW.trod enc Tryd.prog w base spare held n 34 cs = some x) :
    ∃ a : RowsV, cs = rvCells a ∧ (a.1.length ≤ maxLen ∧ Reads w 3 a.2.1 a.1.length (a.1.flatMap rowCells)) := by
  obtain ⟨A, n, c, xs, rfl, h1, h2, h3, h4, _⟩ := rd_plain (cells := rowCells) (ok := fun _ => True) (size := 3) Tryd.underlying34 (by kernel_rfl) (by decide) (fun n cs x h => rd_rowC h) h
  subst h3
  exact ⟨(xs, A, c), rfl, Nat.le_trans h1 h2, h4⟩
set_option maxRecDepth 100000 in
theorem rd_cert {n : Nat} {cs : List Value} {x : DataW H × List MemPlace} (h : DataW.trod enc Tryd.prog w base spare held n 30 cs = some x) : ∃ (v : CrtV) (c : Crt), cs = crtCells v c ∧ CrtW w v c := by
  obtain ⟨m, l0, l1, y0, y1, rfl, _, _, g0, g1⟩ := rd_struct2 (z0 := 1) (z1 := 1) Tryd.underlying30 (by kernel_rfl) (by kernel_rfl) (by kernel_rfl) rfl rfl h
  obtain ⟨A1, n1, c1, ms, rfl, a1, a2, a3, a4, a5⟩ := rd_plain (cells := rvCells) (ok := fun a : RowsV => a.1.length ≤ maxLen ∧ Reads w 3 a.2.1 a.1.length (a.1.flatMap rowCells)) (size := 1) Tryd.underlying27 (by kernel_rfl) (by decide) (fun n cs x h => rd_rowsC h) g0
  obtain ⟨A2, n2, c2, es, rfl, b1, b2, b3, b4, _⟩ := rd_plain (cells := spnCells) (ok := fun _ => True) (size := 2) Tryd.underlying28 (by kernel_rfl) (by decide) (fun n cs x h => rd_spanC h) g1
  subst a3
  subst b3
  refine ⟨⟨A1, c1, A2, c2⟩, ⟨ms.map (·.1), es⟩, by simp [crtCells], ?_⟩
  refine ⟨⟨ms.map (fun a => Value.slice a.2.1 a.1.length a.2.2), by simp, ?_, fun i hi => ?_⟩, b4, by simpa using Nat.le_trans a1 a2, Nat.le_trans b1 b2, fun r hr => ?_⟩
  · rw [← rv_flat]
    simpa using a4
  · simp only [List.length_map] at hi
    refine ⟨ms[i].2.1, ms[i].2.2, ?_, ?_⟩
    · rw [List.getElem?_map, List.getElem?_eq_getElem hi]
      simp
    · simp only [List.getElem_map]
      exact (a5 ms[i] (List.getElem_mem hi)).2
  · obtain ⟨p, hp, rfl⟩ := List.mem_map.1 hr
    exact (a5 p hp).1
end
end Go.Proofs.YteocldlglklnjaaDoor
