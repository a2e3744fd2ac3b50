/- Which images may be, where and why others may not: the program's own answer. -/
import Derived.Test.YtoepkhkaifgddaaImgG
namespace Go.Proofs.Ytoepkhkaifgddaa
open Go.RowKit

theorem firstMode_append (all : Nat) : ∀ (l m : List Mdd) (i : Nat), firstMode all i (l ++ m) = match firstMode all i l with | some j => some j | none => firstMode all (i + l.length) m
  | [], m, i => rfl
  | a :: l, m, i => by
    rw [List.cons_append, firstMode, firstMode]
    cases mddErr all a with
    | none => simp only; rw [firstMode_append all l m (i + 1), List.length_cons, show i + 1 + l.length = i + (l.length + 1) by omega]
    | some e => rfl
theorem firstMode_step {all : Nat} {l : List Mdd} {k : Nat} (hk : k < l.length) (h : firstMode all 0 (l.take k) = none) (ho : mddErr all l[k] = none) : firstMode all 0 (l.take (k + 1)) = none := by
  rw [List.take_succ_eq_append_getElem hk, firstMode_append, h]
  simp only [firstMode, ho]
theorem firstMode_at {all : Nat} {l : List Mdd} {k : Nat} (hk : k < l.length) (h : firstMode all 0 (l.take k) = none) {e : Int} (ho : mddErr all l[k] = some e) : firstMode all 0 l = some (k, e) := by
  have e1 : l = l.take k ++ l.drop k := (List.take_append_drop k l).symm
  rw [e1, firstMode_append, h, List.drop_eq_getElem_cons hk]
  have e2 : 0 + (l.take k).length = k := by rw [List.length_take]; omega
  simp only [e2, firstMode, ho]
theorem firstMode_all {all : Nat} {l : List Mdd} {k : Nat} (hk : l.length ≤ k) (h : firstMode all 0 (l.take k) = none) : firstMode all 0 l = none := by rwa [List.take_of_length_le hk] at h
theorem firstMode_ok {all : Nat} : ∀ {l : List Mdd} {i : Nat}, firstMode all i l = none → ∀ m ∈ l, mddErr all m = none
  | [], _, _, m, hm => by simp at hm
  | a :: l, i, h, m, hm => by
    rw [firstMode] at h
    cases ha : mddErr all a with
    | none =>
      rw [ha] at h
      rcases List.mem_cons.1 hm with rfl | hm
      · exact ha
      · exact firstMode_ok h m hm
    | some e => rw [ha] at h; cases h
theorem mddErr_ok {all : Nat} {m : Mdd} (h : mddErr all m = none) : quesOk m.qs = true ∧ m.set ||| all = all := by
  unfold mddErr at h
  split at h
  · rename_i h1
    split at h
    · rename_i h2; exact ⟨h2, h1⟩
    · cases h
  · cases h
theorem quesOk_le {l : List Que} (h : quesOk l = true) : l.length ≤ 4 := by
  unfold quesOk at h
  simp at h
  exact h.1
theorem or_andNot (s all : Nat) (hs : s < 4294967296) (ha : all < 4294967296) : (minusN s all = 0) ↔ (s ||| all = all) := by
  constructor
  · intro h
    apply Nat.eq_of_testBit_eq
    intro i
    have := congrArg (fun x => x.testBit i) h
    simp only [minusN_testBit s all i hs ha, Nat.zero_testBit] at this
    rw [Nat.testBit_or]
    cases hx : s.testBit i <;> cases hy : all.testBit i <;> simp_all
  · intro h
    apply Nat.eq_of_testBit_eq
    intro i
    have := congrArg (fun x => x.testBit i) h
    simp only [Nat.testBit_or] at this
    rw [minusN_testBit s all i hs ha, Nat.zero_testBit]
    cases hx : s.testBit i <;> cases hy : all.testBit i <;> simp_all
def chkRes (r : Int × Int) : Value := .tuple #[.int .i64 r.1, .int .i64 r.2]
theorem tsk_one (t : Tsk) : ∀ u ∈ tskCells t, u.oneCell' = true := iv_one _

section
variable {x : Img}
theorem chk1 (h : inR x.res 0 8 = false) : chkImg x = (0, 103) := by unfold chkImg; rw [if_pos h]
theorem chk2 (h : inR x.res 0 8 = true) (h2 : inR x.tasks.length 1 16 = false) : chkImg x = ((x.tasks.length : Int), 100) := by unfold chkImg; rw [if_neg (by simp [h]), if_pos h2]
theorem chk3 (h : inR x.res 0 8 = true) (h2 : inR x.tasks.length 1 16 = true) {k : Nat} (h3 : firstBad (fun _ t => tskOk t x.res) 0 x.tasks = some k) : chkImg x = ((k : Int), 100) := by
  unfold chkImg; rw [if_neg (by simp [h]), if_neg (by simp [h2]), h3]
theorem chk4 (h : inR x.res 0 8 = true) (h2 : inR x.tasks.length 1 16 = true) (h3 : firstBad (fun _ t => tskOk t x.res) 0 x.tasks = none) (h4 : inR x.modes.length 1 8 = false) : chkImg x = ((x.modes.length : Int), 101) := by
  unfold chkImg; rw [if_neg (by simp [h]), if_neg (by simp [h2]), h3]; simp only; rw [if_pos h4]
theorem chk5 (h : inR x.res 0 8 = true) (h2 : inR x.tasks.length 1 16 = true) (h3 : firstBad (fun _ t => tskOk t x.res) 0 x.tasks = none) (h4 : inR x.modes.length 1 8 = true) {k : Nat} {e : Int}
    (h5 : firstMode (allSet x.tasks.length) 0 x.modes = some (k, e)) : chkImg x = ((k : Int), e) := by
  unfold chkImg; rw [if_neg (by simp [h]), if_neg (by simp [h2]), h3]; simp only; rw [if_neg (by simp [h4]), h5]
theorem chk6 (h : inR x.res 0 8 = true) (h2 : inR x.tasks.length 1 16 = true) (h3 : firstBad (fun _ t => tskOk t x.res) 0 x.tasks = none) (h4 : inR x.modes.length 1 8 = true)
    (h5 : firstMode (allSet x.tasks.length) 0 x.modes = none) (h6 : 24 < x.edges.length) : chkImg x = ((x.edges.length : Int), 102) := by
  unfold chkImg; rw [if_neg (by simp [h]), if_neg (by simp [h2]), h3]; simp only; rw [if_neg (by simp [h4]), h5]; simp only; rw [if_pos h6]
theorem chk7 (h : inR x.res 0 8 = true) (h2 : inR x.tasks.length 1 16 = true) (h3 : firstBad (fun _ t => tskOk t x.res) 0 x.tasks = none) (h4 : inR x.modes.length 1 8 = true)
    (h5 : firstMode (allSet x.tasks.length) 0 x.modes = none) (h6 : x.edges.length ≤ 24) {k : Nat} (h7 : firstBad (fun i e => edgOk x i e) 0 x.edges = some k) : chkImg x = ((k : Int), 102) := by
  unfold chkImg; rw [if_neg (by simp [h]), if_neg (by simp [h2]), h3]; simp only; rw [if_neg (by simp [h4]), h5]; simp only; rw [if_neg (by omega), h7]
theorem chk8 (h : inR x.res 0 8 = true) (h2 : inR x.tasks.length 1 16 = true) (h3 : firstBad (fun _ t => tskOk t x.res) 0 x.tasks = none) (h4 : inR x.modes.length 1 8 = true)
    (h5 : firstMode (allSet x.tasks.length) 0 x.modes = none) (h6 : x.edges.length ≤ 24) (h7 : firstBad (fun i e => edgOk x i e) 0 x.edges = none) : chkImg x = (0, 0) := by
  unfold chkImg; rw [if_neg (by simp [h]), if_neg (by simp [h2]), h3]; simp only; rw [if_neg (by simp [h4]), h5]; simp only; rw [if_neg (by omega), h7]
end

end Go.Proofs.Ytoepkhkaifgddaa
