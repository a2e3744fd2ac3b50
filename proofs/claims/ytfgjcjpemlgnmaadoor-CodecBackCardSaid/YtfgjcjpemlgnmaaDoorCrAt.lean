/- The document's word at a place; and a mode's tasks; walked. No condition. -/
import Derived.Test.YtfgjcjpemlgnmaaDoorCrDec
namespace Go.Proofs.YtfgjcjpemlgnmaaDoor
open Go.RowKit

/-- The words, as the document reads them. -/
structure WordsAt (w : World) (A : Option Addr) (l : List Int) : Prop where
  rd : Reads w 1 A l.length (uw l)
  lt : ∀ n ∈ l, 0 ≤ n ∧ n < 4294967296
  len : l.length ≤ 100000
theorem WordsAt.keep0 {w w' : World} {A : Option Addr} {l : List Int} (h : WordsAt w A l) (k : Keep [] w w') : WordsAt w' A l := ⟨h.rd.keep0 k, h.lt, h.len⟩
theorem atD_in {l : List Int} (h : ∀ n ∈ l, 0 ≤ n ∧ n < 4294967296) (i : Nat) : 0 ≤ atD l i ∧ atD l i < 4294967296 := by
  unfold atD
  rw [List.getD_eq_getElem?_getD]
  rcases Nat.lt_or_ge i l.length with h1 | h1
  · rw [List.getElem?_eq_getElem h1]
    exact h _ (List.getElem_mem h1)
  · rw [List.getElem?_eq_none h1]
    exact ⟨Int.le_refl _, by decide⟩
set_option maxRecDepth 100000 in
theorem at_any11 (A : Option Addr) (c : Nat) (l : List Int) (i : Nat) (w : World) (h : WordsAt w A l) :
    Calls Tryd.prog 27 #[.slice A l.length c, .int .i64 (i : Int)] w fun e w' => e = .returned (.int .i64 (atD l i)) ∧ w = w' := by
  have hlen := h.len
  by_cases hi : i < l.length
  · obtain ⟨b, o, rfl, hbw, hc⟩ := uw_at h.rd (by omega)
    have hcp := hc i hi
    have hd : atD l i = l[i] := by unfold atD; rw [List.getD_eq_getElem?_getD, List.getElem?_eq_getElem hi]; rfl
    obtain ⟨n0, n1⟩ := h.lt l[i] (List.getElem_mem hi)
    have hWr : IntKind.i64.wrap l[i] = l[i] := IntWalk.i64_in _ (by omega)
    have p0 : (0 : Int) ≤ (i : Int) := by omega
    have p1 : (i : Int) < (l.length : Int) := by omega
    rw [hd]
    clear hc hd
    generalize l[i] = n at *
    generalize l.length = ll at *
    go_enter Tryd.func27, Tryd.ntmps27
    go_wp2
    go_ret
    exact ⟨rfl, rfl⟩
  · have hd : atD l i = 0 := by unfold atD; rw [List.getD_eq_getElem?_getD, List.getElem?_eq_none (by omega)]; rfl
    have p1 : decide ((i : Int) < (l.length : Int)) = false := decide_eq_false (by omega)
    rw [hd]
    clear hd
    generalize l.length = ll at *
    go_enter Tryd.func27, Tryd.ntmps27
    go_wp2
    go_ret
    exact ⟨rfl, rfl⟩
end Go.Proofs.YtfgjcjpemlgnmaaDoor
