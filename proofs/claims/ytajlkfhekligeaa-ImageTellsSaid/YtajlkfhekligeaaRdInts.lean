/- How an argument of whatever structs and arrays of ints is opened to cells; no condition. -/
import Derived.Test.YtajlkfhekligeaaLaw
import Derived.Test.YtajlkfhekligeaaEqI
namespace Go.Proofs.Ytajlkfhekligeaa
open Go.ChangeShapes Go.WideShapes Go.ChangeAt Go.RowKit Go.Deep

/-- A type whose cells are n ints. -/
def RdI (P : Program) (t : TypeId) (n : Nat) : Prop :=
  ∀ {H : Type} {enc : TypeId × Value → H} {w : World} {base : Nat} {spare : Nat → Bool} {held : Bool} {fuel : Nat} {cs : List Value} {x : DataW H × List MemPlace}, DataW.trod enc P w base spare held fuel t cs = some x → cs.length = n ∧ ∀ (j : Nat) (u : Value), cs[j]? = some u → ∃ k : Int, u = Value.int .i64 k
theorem rdI_int {P : Program} {t : TypeId} (ht : P.underlying t = some (.int .i64)) : RdI P t 1 := by
  intro H enc w base spare held fuel cs x h
  obtain ⟨k, rfl, _, _⟩ := DataW.trod_int ht h
  refine ⟨rfl, fun j u hu => ?_⟩
  cases j with
  | zero => simp at hu; exact ⟨k, hu.symm⟩
  | succ j => simp at hu
theorem rdI_array {P : Program} {t e : TypeId} {n : Nat} (ht : P.underlying t = some (.array n e)) (hc : P.cellsOf t = n) (he : P.cellsOf e = 1) (hr : RdI P e 1) : RdI P t n := by
  intro H enc w base spare held fuel cs x h
  obtain ⟨xs, m, _, _, hl, hxl, hf⟩ := DataW.trod_array ht h
  rw [hc] at hl
  refine ⟨hl, fun j u hu => ?_⟩
  have hj : j < n := by rw [← hl]; exact (List.getElem?_eq_some_iff.1 hu).1
  have h1 := hf j hj
  rw [he, List.getElem?_eq_getElem (by omega)] at h1
  obtain ⟨_, h2⟩ := hr h1
  exact h2 0 u (by rw [List.getElem?_take_of_lt (by decide), List.getElem?_drop, Nat.mul_one, Nat.add_zero]; exact hu)
/-- A struct's fields, one behind the other from cell o to cell n. -/
def FieldsR (P : Program) : List Field → Nat → Nat → Prop
  | [], o, n => o = n
  | f :: l, o, n => f.offset = o ∧ ∃ s, P.cellsOf f.type = s ∧ RdI P f.type s ∧ FieldsR P l (o + s) n
theorem rdI_struct {P : Program} {t : TypeId} {n : Nat} {l : List Field} (ht : P.underlying t = some (.struct l.toArray)) (hc : P.cellsOf t = n) (hF : FieldsR P l 0 n) : RdI P t n := by
  intro H enc w base spare held fuel cs x h
  obtain ⟨xs, m, _, _, hl, hxl, hf⟩ := DataW.trod_struct ht h
  rw [hc] at hl
  refine ⟨hl, ?_⟩
  have hall : ∀ f ∈ l, ∃ y, DataW.trod enc P w base spare held m f.type ((cs.drop f.offset).take (P.cellsOf f.type)) = some y := by
    intro f hm
    obtain ⟨i, hi, rfl⟩ := List.getElem_of_mem hm
    have := hf i l[i] (by simp)
    rw [List.getElem?_eq_getElem (by rw [hxl]; simpa using hi)] at this
    exact ⟨_, this⟩
  have key : ∀ (l : List Field) (o : Nat), FieldsR P l o n → (∀ f ∈ l, ∃ y, DataW.trod enc P w base spare held m f.type ((cs.drop f.offset).take (P.cellsOf f.type)) = some y) → ∀ (j : Nat) (u : Value), o ≤ j → cs[j]? = some u → ∃ k : Int, u = Value.int .i64 k := by
    intro l
    induction l with
    | nil =>
      intro o ho _ j u hj hu
      have ho : o = n := ho
      have := (List.getElem?_eq_some_iff.1 hu).1
      omega
    | cons f l ih =>
      rintro o ⟨ho, s, hs, hr, hF⟩ hy j u hj hu
      by_cases hjs : j < o + s
      · obtain ⟨y, hy1⟩ := hy f (by simp)
        obtain ⟨_, h2⟩ := hr hy1
        refine h2 (j - o) u ?_
        rw [ho, hs, List.getElem?_take_of_lt (by omega), List.getElem?_drop, show o + (j - o) = j by omega]
        exact hu
      · exact ih _ hF (fun f' hf' => hy f' (by simp [hf'])) j u (by omega) hu
  exact fun j u hu => key l 0 hF hall j u (Nat.zero_le _) hu
theorem ints_list : ∀ (cs : List Value), (∀ (j : Nat) (u : Value), cs[j]? = some u → ∃ k : Int, u = Value.int .i64 k) → ∃ xs : List Int, cs = iv xs
  | [], _ => ⟨[], rfl⟩
  | c :: cs, h => by
    obtain ⟨k, rfl⟩ := h 0 c rfl
    obtain ⟨xs, rfl⟩ := ints_list cs (fun j u hu => h (j + 1) u (by simpa using hu))
    exact ⟨k :: xs, rfl⟩
theorem RdI.list {P : Program} {t : TypeId} {n : Nat} (hr : RdI P t n) {H : Type} {enc : TypeId × Value → H} {w : World} {base : Nat} {spare : Nat → Bool} {held : Bool} {fuel : Nat} {cs : List Value} {x : DataW H × List MemPlace} (h : DataW.trod enc P w base spare held fuel t cs = some x) :
    ∃ xs : List Int, cs = iv xs ∧ xs.length = n := by
  obtain ⟨hl, hc⟩ := hr h
  obtain ⟨xs, rfl⟩ := ints_list cs hc
  exact ⟨xs, rfl, by simpa using hl⟩
end Go.Proofs.Ytajlkfhekligeaa
