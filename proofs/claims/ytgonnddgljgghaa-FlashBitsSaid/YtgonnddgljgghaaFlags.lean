/- What the methods of flags answer and leave, for any set of flags and any argument: each walks its Go text; no condition. -/
import Derived.Test.YtgonnddgljgghaaRows
import Derived.Test.YtgonnddgljgghaaBase
import Derived.WalkKit
import Derived.WalkSpells
import Derived.WalkLawsBesides
namespace Go.Proofs.Ytgonnddgljgghaa
open Go.RowKit

def w32 (s : Nat) : Value := .int .u32 (s : Int)
/-- Flags s behind a pointer to block g. -/
def FlagsAt (w : World) (g s : Nat) : Prop := Blk w g 27 #[.int .u32 (s : Int)]
def diffN (a b : Nat) : Nat := a &&& (4294967295 - b)
def anyE (s l : Nat) : Int := if l = 0 then 280 else if s &&& l = 0 then 270 else 0
def everyE (s l : Nat) : Int := if l = 0 then 280 else if s &&& l = l then 0 else 270
def everyN (s l : Nat) : Nat := if s &&& l = l then l else 0
def flagE (l : Nat) : Int := if l = 0 then 280 else 0

theorem beq0 (l : Nat) : ((l : Int) == 0) = decide (l = 0) := by
  rw [Bool.eq_iff_iff]; simp
theorem diffN_zero (s : Nat) (hs : s < 4294967296) : diffN s 0 = s := by
  unfold diffN
  have := Nat.and_two_pow_sub_one_eq_mod s 32
  simp only [Nat.reducePow, Nat.reduceSub] at this
  rw [show 4294967295 - 0 = 4294967295 from rfl, this]
  omega
theorem diffN_lt (s l : Nat) (hs : s < 4294967296) : diffN s l < 4294967296 := Nat.lt_of_le_of_lt Nat.and_le_left hs

def LeavesFlags (w : World) (g s : Nat) (v : Value) (e : Ending) (w' : World) : Prop := e = .returned v ∧ FlagsAt w' g s ∧ Keep [g] w w'
theorem FlagsAt.set {w : World} {g s : Nat} (h : FlagsAt w g s) (t : Nat) : FlagsAt (w.setCell ⟨g, 0, none⟩ (.int .u32 (t : Int))) g t := Blk.set_ h 0 _

set_option maxRecDepth 100000 in
set_option maxHeartbeats 400000 in
theorem fset_any (g s l : Nat) (w : World) (hs : s < 4294967296) (hl : l < 4294967296) (hf : FlagsAt w g s) :
    Calls Try.prog 17 #[.pointer (some ⟨g, 0, none⟩), .int .u32 (l : Int)] w (LeavesFlags w g (s ||| l) (.int .i64 (flagE l))) := by
  have hc := hf.cell 0
  have hz := hf.frozen 0
  simp at hc
  have hu := u32_or_nat s l hs hl
  clear hs hl
  by_cases h0 : l = 0
  · subst h0
    have H : Hid (LeavesFlags w g (s ||| 0) (.int .i64 (flagE 0)) (.returned (.int .i64 280)) w) := ⟨rfl, by simpa using hf, Keep.refl _ _⟩
    clear hf
    go_enter Try.func17, Try.ntmps17
    go_wp2
    go_ret
    exact H.out
  · have hb : ((l : Int) == 0) = false := by simpa using h0
    have H : Hid (LeavesFlags w g (s ||| l) (.int .i64 (flagE l)) (.returned (.int .i64 0)) (w.setCell ⟨g, 0, none⟩ (.int .u32 ((s ||| l : Nat) : Int)))) :=
      ⟨by simp [flagE, h0], hf.set _, keep_set _ _ _ _⟩
    clear hf h0
    go_enter Try.func17, Try.ntmps17
    go_wp2
    go_ret
    exact H.out

set_option maxRecDepth 100000 in
set_option maxHeartbeats 400000 in
theorem fclear_any (g s l : Nat) (w : World) (hs : s < 4294967296) (hl : l < 4294967296) (hf : FlagsAt w g s) :
    Calls Try.prog 12 #[.pointer (some ⟨g, 0, none⟩), .int .u32 (l : Int)] w (LeavesFlags w g (diffN s l) (.int .i64 (flagE l))) := by
  have hc := hf.cell 0
  have hz := hf.frozen 0
  simp at hc
  have hu := u32_andNot_nat s l hs hl
  have hd := diffN_zero s hs
  by_cases h0 : l = 0
  · subst h0
    have H : Hid (LeavesFlags w g (diffN s 0) (.int .i64 (flagE 0)) (.returned (.int .i64 280)) w) := ⟨rfl, by rw [hd]; exact hf, Keep.refl _ _⟩
    clear hf hd hs hl
    go_enter Try.func12, Try.ntmps12
    go_wp2
    go_ret
    exact H.out
  · have hb : ((l : Int) == 0) = false := by simpa using h0
    have H : Hid (LeavesFlags w g (diffN s l) (.int .i64 (flagE l)) (.returned (.int .i64 0)) (w.setCell ⟨g, 0, none⟩ (.int .u32 ((diffN s l : Nat) : Int)))) :=
      ⟨by simp [flagE, h0], hf.set _, keep_set _ _ _ _⟩
    have hu2 : bits .andNot .u32 (s : Int) (l : Int) = ((diffN s l : Nat) : Int) := hu
    clear hf hd h0 hu hs hl
    go_enter Try.func12, Try.ntmps12
    go_wp2
    go_ret
    exact H.out

set_option maxRecDepth 100000 in
set_option maxHeartbeats 400000 in
theorem fany_any (g s l : Nat) (w : World) (hs : s < 4294967296) (hl : l < 4294967296) (hf : FlagsAt w g s) :
    Calls Try.prog 14 #[.pointer (some ⟨g, 0, none⟩), .int .u32 (l : Int)] w fun e w' => e = .returned (.tuple #[.int .u32 ((s &&& l : Nat) : Int), .int .i64 (anyE s l)]) ∧ w = w' := by
  have hc := hf.cell 0
  simp at hc
  have hu := u32_and_nat s l hs hl
  clear hs hl hf
  by_cases h0 : l = 0
  · subst h0
    go_enter Try.func14, Try.ntmps14
    go_wp2
    go_ret2
    exact ⟨by simp [anyE], rfl⟩
  · have hb : ((l : Int) == 0) = false := by simpa using h0
    have H0 := Lib.hid h0
    clear h0
    by_cases h1 : s &&& l = 0
    · have hb1 : (((s &&& l : Nat) : Int) == 0) = true := by simpa using h1
      have H1 := Lib.hid h1
      clear h1
      go_enter Try.func14, Try.ntmps14
      go_wp2
      go_ret2
      exact ⟨by simp [anyE, H0.out, H1.out], rfl⟩
    · have hb1 : (((s &&& l : Nat) : Int) == 0) = false := by simpa using h1
      have H1 := Lib.hid h1
      clear h1
      go_enter Try.func14, Try.ntmps14
      go_wp2
      go_ret2
      exact ⟨by simp [anyE, H0.out, H1.out], rfl⟩

set_option maxRecDepth 100000 in
set_option maxHeartbeats 400000 in
theorem fevery_any (g s l : Nat) (w : World) (hs : s < 4294967296) (hl : l < 4294967296) (hf : FlagsAt w g s) :
    Calls Try.prog 15 #[.pointer (some ⟨g, 0, none⟩), .int .u32 (l : Int)] w fun e w' => e = .returned (.tuple #[.int .u32 ((everyN s l : Nat) : Int), .int .i64 (everyE s l)]) ∧ w = w' := by
  have hc := hf.cell 0
  simp at hc
  have hu := u32_and_nat s l hs hl
  clear hs hl hf
  by_cases h0 : l = 0
  · subst h0
    go_enter Try.func15, Try.ntmps15
    go_wp2
    go_ret2
    exact ⟨by simp [everyE, everyN], rfl⟩
  · have hb : ((l : Int) == 0) = false := by simpa using h0
    have H0 := Lib.hid h0
    clear h0
    by_cases h1 : s &&& l = l
    · have hb1 : (((s &&& l : Nat) : Int) != (l : Int)) = false := by simp [h1]
      have H1 := Lib.hid h1
      clear h1
      go_enter Try.func15, Try.ntmps15
      go_wp2
      go_ret2
      exact ⟨by simp [everyE, everyN, H0.out, H1.out], rfl⟩
    · have hb1 : (((s &&& l : Nat) : Int) != (l : Int)) = true := by simp; omega
      have H1 := Lib.hid h1
      clear h1
      go_enter Try.func15, Try.ntmps15
      go_wp2
      go_ret2
      exact ⟨by simp [everyE, everyN, H0.out, H1.out], rfl⟩

theorem fall_any (g s : Nat) (w : World) (hf : FlagsAt w g s) :
    Calls Try.prog 19 #[.pointer (some ⟨g, 0, none⟩)] w fun e w' => e = .returned (.int .u32 (s : Int)) ∧ w = w' := by
  have hc := hf.cell 0
  simp at hc
  go_enter Try.func19, Try.ntmps19
  go_wp2
  go_ret
  exact ⟨rfl, rfl⟩

theorem anyE_beq (s l : Nat) : (anyE s l == 0) = (decide (l ≠ 0) && decide (s &&& l ≠ 0)) := by
  unfold anyE
  split
  · simp_all
  · split <;> simp_all
theorem diffN_testBit (s l i : Nat) (hs : s < 4294967296) (hl : l < 4294967296) : (diffN s l).testBit i = (s.testBit i && !l.testBit i) := by
  unfold diffN
  have h := Nat.testBit_two_pow_sub_succ (n := 32) (x := l) hl i
  rw [Nat.testBit_and, show 4294967295 - l = 2 ^ 32 - (l + 1) by omega, h]
  by_cases hi : i < 32
  · simp [hi]
  · have := Nat.testBit_lt_two_pow (x := s) (i := i) (Nat.lt_of_lt_of_le (show s < 2 ^ 32 from hs) (Nat.pow_le_pow_right (by decide) (by omega)))
    simp [this]
theorem diffN_and (s l : Nat) (hs : s < 4294967296) (hl : l < 4294967296) : diffN s (s &&& l) = diffN s l := by
  apply Nat.eq_of_testBit_eq
  intro i
  rw [diffN_testBit _ _ _ hs (Nat.lt_of_le_of_lt Nat.and_le_left hs), diffN_testBit _ _ _ hs hl, Nat.testBit_and]
  cases s.testBit i <;> simp
theorem diffN_of_and (s l : Nat) (hs : s < 4294967296) (hl : l < 4294967296) (h : s &&& l = 0) : diffN s l = s := by
  rw [← diffN_and s l hs hl, h, diffN_zero s hs]

set_option maxRecDepth 100000 in
set_option maxHeartbeats 400000 in
theorem ftake_any (g s l : Nat) (w : World) (hs : s < 4294967296) (hl : l < 4294967296) (hf : FlagsAt w g s) :
    Calls Try.prog 16 #[.pointer (some ⟨g, 0, none⟩), .int .u32 (l : Int)] w (LeavesFlags w g (diffN s l) (.tuple #[.int .u32 ((s &&& l : Nat) : Int), .int .i64 (anyE s l)])) := by
  have C := Lib.hid (fany_any g s l w hs hl hf)
  have hc := hf.cell 0
  have hz := hf.frozen 0
  simp at hc
  have hu : bits .andNot .u32 (s : Int) ((s &&& l : Nat) : Int) = ((diffN s (s &&& l) : Nat) : Int) := u32_andNot_nat s (s &&& l) hs (Nat.lt_of_le_of_lt Nat.and_le_left hs)
  rw [diffN_and s l hs hl] at hu
  have hb := anyE_beq s l
  by_cases h0 : l ≠ 0 ∧ s &&& l ≠ 0
  · have hb1 : (anyE s l == 0) = true := by rw [hb]; simp [h0]
    have H : Hid (LeavesFlags w g (diffN s l) (.tuple #[.int .u32 ((s &&& l : Nat) : Int), .int .i64 (anyE s l)]) (.returned (.tuple #[.int .u32 ((s &&& l : Nat) : Int), .int .i64 (anyE s l)])) (w.setCell ⟨g, 0, none⟩ (.int .u32 ((diffN s l : Nat) : Int)))) :=
      ⟨rfl, hf.set _, keep_set _ _ _ _⟩
    clear hf h0 hs hl hb
    go_enter Try.func16, Try.ntmps16
    go_wp2_with (go_at_call 14; refine C.out.mono ?_; rintro e w' ⟨rfl, rfl⟩)
    go_ret2
    exact H.out
  · have hb1 : (anyE s l == 0) = false := by rw [hb]; simpa using h0
    have H : Hid (LeavesFlags w g (diffN s l) (.tuple #[.int .u32 ((s &&& l : Nat) : Int), .int .i64 (anyE s l)]) (.returned (.tuple #[.int .u32 ((s &&& l : Nat) : Int), .int .i64 (anyE s l)])) w) :=
      ⟨rfl, by
        have e : diffN s l = s := by
          by_cases h1 : l = 0
          · subst h1; exact diffN_zero s hs
          · exact diffN_of_and s l hs hl (by simpa [h1] using h0)
        rw [e]; exact hf, Keep.refl _ _⟩
    clear hf h0 hs hl hb
    go_enter Try.func16, Try.ntmps16
    go_wp2_with (go_at_call 14; refine C.out.mono ?_; rintro e w' ⟨rfl, rfl⟩)
    go_ret2
    exact H.out

end Go.Proofs.Ytgonnddgljgghaa
