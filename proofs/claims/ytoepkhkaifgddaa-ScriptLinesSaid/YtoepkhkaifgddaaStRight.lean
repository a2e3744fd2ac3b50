/- Which steps are right: the program's answer; walked. No condition. -/
import Derived.Test.YtoepkhkaifgddaaStAlive
namespace Go.Proofs.Ytoepkhkaifgddaa
open Go.RowKit

def numB (n : Int) : Bool := decide (0 ≤ n) && decide (n ≤ 2147483647)
def secB (x : Sct) : Bool := numB x.res && numB x.frm && numB x.to
def hasB (p : ByteArray) (c : Int) : Bool := decide (0 ≤ idxB p c)
def nOk (p : ByteArray) (n : Int) : Bool := if hasB p 110 then numB n else if hasB p 104 then decide (0 ≤ n) && decide (n ≤ 4294967295) else n == 0
def rightP (s : Stp) : Bool :=
  isKind s.kind && numB s.a && (s.a == 0 || hasB (shp s.kind).2 97) && (nOk (shp s.kind).2 s.n && s.secs.all (fun x => hasB (shp s.kind).2 115 && secB x)) && (s.words.length == 0 || hasB (shp s.kind).2 119)

set_option maxRecDepth 100000 in
theorem number_any (n : Int) (w : World) : Calls Try.prog 55 #[.int .i64 n] w fun e w' => e = .returned (.bool (numB n)) ∧ w = w' := by
  unfold numB
  rcases Int.lt_or_le n 0 with h | h
  · have h1 : decide (0 ≤ n) = false := decide_eq_false (by omega)
    rw [h1]
    go_enter Try.func55, Try.ntmps55
    go_wp2
    go_ret
    exact ⟨by simp, rfl⟩
  · rcases Int.lt_or_le 2147483647 n with h2 | h2
    · have e1 : decide (0 ≤ n) = true := decide_eq_true h
      have e2 : decide (n ≤ 2147483647) = false := decide_eq_false (by omega)
      rw [e1, e2]
      go_enter Try.func55, Try.ntmps55
      go_wp2
      go_ret
      exact ⟨by simp, rfl⟩
    · have e1 : decide (0 ≤ n) = true := decide_eq_true h
      have e2 : decide (n ≤ 2147483647) = true := decide_eq_true h2
      rw [e1, e2]
      go_enter Try.func55, Try.ntmps55
      go_wp2
      go_ret
      exact ⟨by simp, rfl⟩

set_option maxRecDepth 100000 in
theorem section_any (x : Sct) (w : World) : Calls Try.prog 56 #[.agg #[.int .i64 x.res, .int .i64 x.frm, .int .i64 x.to]] w fun e w' => e = .returned (.bool (secB x)) ∧ Keep [] w w' := by
  have HN := fun n W => Lib.hid (number_any n W)
  unfold secB
  obtain ⟨a, b, c⟩ := x
  dsimp only
  have H1 := fun W => HN a W
  have H2 := fun W => HN b W
  have H3 := fun W => HN c W
  clear HN
  generalize numB a = b1 at *
  generalize numB b = b2 at *
  generalize numB c = b3 at *
  have hk := (Keep.refl [] w).alloc (.cells #[.int .i64 a, .int .i64 b, .int .i64 c] 85)
  go_enter Try.func56, Try.ntmps56
  go_wp2_with fail
  refine (H1 _).out.mono ?_
  rintro e w1 ⟨rfl, rfl⟩
  cases b1
  · go_wp2
    go_ret
    exact ⟨rfl, hk⟩
  · go_wp2_with fail
    refine (H2 _).out.mono ?_
    rintro e w1 ⟨rfl, rfl⟩
    cases b2
    · go_wp2
      go_ret
      exact ⟨rfl, hk⟩
    · go_wp2_with fail
      refine (H3 _).out.mono ?_
      rintro e w1 ⟨rfl, rfl⟩
      go_wp2
      go_ret
      exact ⟨rfl, hk⟩
end Go.Proofs.Ytoepkhkaifgddaa
