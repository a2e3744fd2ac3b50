/- The kind of a word: the program's answer. No condition. -/
import Derived.Test.YtoepkhkaifgddaaStShape
import Derived.Deep.LoopGhost
namespace Go.Proofs.Ytoepkhkaifgddaa
open Go.RowKit

theorem toList_eq {a b : ByteArray} (h : a.toList = b.toList) : a = b := by
  have := congrArg List.toArray h
  simp only [ByteArray.toList_eq] at this
  exact ByteArray.ext (by simpa using this)
/-- The kind of a word; 0: there is none. -/
def kindW (s : ByteArray) : Int := match (List.range 15).find? (fun (i : Nat) => decide ((shp ((i : Int) + 1)).1 = s)) with
  | some i => (i : Int) + 1
  | none => 0
theorem kindW_hit {s : ByteArray} {k : Nat} (hk : k < 15) (h : (shp ((k : Int) + 1)).1 = s) (ha : ∀ j : Nat, j < k → (shp ((j : Int) + 1)).1 ≠ s) : kindW s = (k : Int) + 1 := by
  unfold kindW
  rw [List.find?_range_eq_some.2 ⟨by simpa using h, by simpa using hk, fun j hj => by simpa using ha j hj⟩]
theorem kindW_none {s : ByteArray} (ha : ∀ j : Nat, j < 15 → (shp ((j : Int) + 1)).1 ≠ s) : kindW s = 0 := by
  unfold kindW
  rw [List.find?_range_eq_none.2 (fun j hj => by simpa using ha j hj)]

set_option maxRecDepth 100000 in
set_option maxHeartbeats 1000000 in
theorem kindOf_any (s : ByteArray) (w : World) :
    Calls Try.prog 47 #[.string s] w fun e w' => e = .returned (.int .i64 (kindW s)) ∧ Keep [] w w' := by
  go_enter Try.func47, Try.ntmps47
  go_wp2
  go_loopg [3] 15 (fun gk i wr => ∃ k : Nat, k + gk = 15 ∧ i = .int .i64 ((k : Int) + 1) ∧ (∀ j : Nat, j < k → (shp ((j : Int) + 1)).1 ≠ s) ∧ Keep [] w wr)
  case atStart => exact ⟨0, rfl, rfl, fun j hj => absurd hj (by omega), Keep.refl _ _⟩
  case round =>
    obtain ⟨k, hk, rfl, hall, hkeep⟩ := hrel
    have HK := Lib.hid hk
    have hk9 : k ≤ 15 := by omega
    clear hk
    have HKp := Lib.hid hkeep
    by_cases hlk : k < 15
    · have q1 : (k : Int) + 1 ≤ 15 := by omega
      have hh := Lib.hid (fun e => kindW_hit hlk e hall)
      have hn : Hid ((shp ((k : Int) + 1)).1 ≠ s → ∀ j : Nat, j < k + 1 → (shp ((j : Int) + 1)).1 ≠ s) := fun e j hj => by
        by_cases hjk : j = k
        · rw [hjk]; exact e
        · exact hall j (by omega)
      have HC := fun W => Lib.hid (shapeOf_any ((k : Int) + 1) W)
      clear hall hkeep
      generalize shp ((k : Int) + 1) = p at *
      generalize isKind ((k : Int) + 1) = b at *
      obtain ⟨p1, p2⟩ := p
      simp only at hh hn HC
      go_wp2_with fail
      refine (HC _).out.mono ?_
      rintro e w1 ⟨rfl, k1⟩
      have K1 := Lib.hid (HKp.out.then k1)
      clear HC
      by_cases he : p1 = s
      · have HR := Lib.hid (hh.out he)
        have q2 : (p1.toList == s.toList) = true := by rw [he]; exact beq_self_eq_true _
        clear hh hn he k1
        go_wp2
        go_ret
        exact ⟨by rw [HR.out]; rfl, K1.out.alloc _⟩
      · have HR := Lib.hid (hn.out he)
        have q2 : (p1.toList == s.toList) = false := by rw [beq_eq_false_iff_ne]; exact fun e => he (toList_eq e)
        clear hh hn he k1
        go_wp2
        go_roundg (gk - 1)
        case rel => exact ⟨k + 1, by have := HK.out; omega, by go_num, HR.out, K1.out.alloc _⟩
        case measure => have := HK.out; omega
    · have q1 : ¬ (k : Int) + 1 ≤ 15 := by omega
      have HR := Lib.hid (kindW_none (fun j hj => hall j (by omega)))
      clear hall hkeep
      go_wp2
      go_ret
      exact ⟨by rw [HR.out]; rfl, HKp.out⟩
end Go.Proofs.Ytoepkhkaifgddaa
