/- The law's alive, walked; a sector that isn't there. -/
import Derived.Test.YtgonnddgljgghaaLaw06Same
namespace Go.Proofs.Ytgonnddgljgghaa
open Go.RowKit

def ad0 : Dev := newD 2 4 9
def ad1 : Dev := (progS ad0 0 0 5).1
def ad2 : Dev := (progS ad1 0 0 2).1
def ad3 : Dev := (progS ad2 0 0 1).1
theorem ad_facts : (progS ad0 0 0 5).2 = 0 ∧ (progS ad1 0 0 2).2 = 61 ∧ (progS ad2 0 0 1).2 = 0 ∧ readS ad3 0 0 = (1, 0) ∧ ad3.ops = 2 := ⟨by decide +kernel, by decide +kernel, by decide +kernel, by decide +kernel, by decide +kernel⟩
theorem ad_ok : ad0.Ok ∧ ad1.Ok ∧ ad2.Ok ∧ ad3.Ok := by
  have h0 : ad0.Ok := newD_ok 2 4 9 (by decide) (by decide) (by decide) (by decide) (by decide)
  have h1 : ad1.Ok := progS_ok h0 _ _ _ (by decide)
  have h2 : ad2.Ok := progS_ok h1 _ _ _ (by decide)
  exact ⟨h0, h1, h2, progS_ok h2 _ _ _ (by decide)⟩

set_option maxRecDepth 100000 in
set_option maxHeartbeats 1000000 in
theorem alive06 (w : World) : Calls Try.prog 52 #[] w fun e w' => e = .returned (.bool true) ∧ Keep [] w w' := by
  obtain ⟨f1, f2, f3, f4, f5⟩ := ad_facts
  obtain ⟨o0, o1, o2, o3⟩ := ad_ok
  have HN : Hid (Calls Try.prog 45 #[.int .i64 2, .int .i64 4, .int .i64 9] w (RetNew w ad0)) := fnew_yes 2 4 9 w (by decide) (by decide) (by decide) (by decide) (by decide)
  have hp0 : ∀ g b1 b2 W, DevAt W g b1 b2 ad0 → Calls Try.prog 71 #[.pointer (some ⟨g, 0, none⟩), .int .i64 0, .int .i64 0, .int .u32 5] W (Leaves W g b1 b2 ad1 0) := fun g b1 b2 W h => by have := fprog_any g b1 b2 ad0 0 0 5 W h o0 (by decide); rw [f1] at this; exact this
  have hp1 : ∀ g b1 b2 W, DevAt W g b1 b2 ad1 → Calls Try.prog 71 #[.pointer (some ⟨g, 0, none⟩), .int .i64 0, .int .i64 0, .int .u32 2] W (Leaves W g b1 b2 ad2 61) := fun g b1 b2 W h => by have := fprog_any g b1 b2 ad1 0 0 2 W h o1 (by decide); rw [f2] at this; exact this
  have hp2 : ∀ g b1 b2 W, DevAt W g b1 b2 ad2 → Calls Try.prog 71 #[.pointer (some ⟨g, 0, none⟩), .int .i64 0, .int .i64 0, .int .u32 1] W (Leaves W g b1 b2 ad3 0) := fun g b1 b2 W h => by have := fprog_any g b1 b2 ad2 0 0 1 W h o2 (by decide); rw [f3] at this; exact this
  have hrd : ∀ g b1 b2 W, DevAt W g b1 b2 ad3 → Calls Try.prog 53 #[.pointer (some ⟨g, 0, none⟩), .int .i64 0, .int .i64 0] W fun e w' => e = .returned (.tuple #[.int .u32 1, .int .i64 0]) ∧ W = w' := fun g b1 b2 W h => by have := fread_any g b1 b2 ad3 0 0 W h o3; rw [f4] at this; exact this
  have hop : ∀ g b1 b2 W, DevAt W g b1 b2 ad3 → Calls Try.prog 72 #[.pointer (some ⟨g, 0, none⟩)] W fun e w' => e = .returned (.int .i64 2) ∧ W = w' := fun g b1 b2 W h => by have := fops_any g b1 b2 ad3 W h; rw [f5] at this; exact this
  have HP0 := Lib.hid hp0
  have HP1 := Lib.hid hp1
  have HP2 := Lib.hid hp2
  have HRD := Lib.hid hrd
  have HOP := Lib.hid hop
  clear hp0 hp1 hp2 hrd hop f1 f2 f3 f4 f5 o0 o1 o2 o3
  go_enter Try.func52, Try.ntmps52
  go_wp2_with fail
  refine HN.out.mono ?_
  rintro e w1 ⟨g, b1, b2, rfl, hg, hb1, hb2, hd1, k1⟩
  have HD1 := Lib.hid hd1
  have K1 := Lib.hid k1
  clear hd1 k1
  go_wp2_with fail
  refine (HP0.out g b1 b2 w1 HD1.out).mono ?_
  rintro e w2 ⟨rfl, hd2, k2⟩
  have HD2 := Lib.hid hd2
  have K2 := Lib.hid (K1.out.trans k2 (by simp; omega))
  clear hd2 k2
  go_wp2_with fail
  refine (HP1.out g b1 b2 w2 HD2.out).mono ?_
  rintro e w3 ⟨rfl, hd3, k3⟩
  have HD3 := Lib.hid hd3
  have K3 := Lib.hid (K2.out.trans k3 (by simp; omega))
  clear hd3 k3
  go_wp2_with fail
  refine (HP2.out g b1 b2 w3 HD3.out).mono ?_
  rintro e w4 ⟨rfl, hd4, k4⟩
  have HD4 := Lib.hid hd4
  have K4 := Lib.hid (K3.out.trans k4 (by simp; omega))
  clear hd4 k4
  go_wp2_with fail
  refine (HRD.out g b1 b2 w4 HD4.out).mono ?_
  rintro e w5 ⟨rfl, rfl⟩
  go_wp2_with fail
  refine (HOP.out g b1 b2 w4 HD4.out).mono ?_
  rintro e w5 ⟨rfl, rfl⟩
  go_wp2_with fail
  go_ret
  exact ⟨rfl, K4.out⟩

set_option maxRecDepth 100000 in
set_option maxHeartbeats 1000000 in
theorem fsector_none (g b1 b2 : Nat) (d : Dev) (s : Int) (w : World) (hd : DevAt w g b1 b2 d) (ho : d.Ok) (h : s < 0 ∨ (d.ns : Int) ≤ s) :
    Calls Try.prog 49 #[.pointer (some ⟨g, 0, none⟩), .int .i64 s] w fun e w' => e = .returned (.slice none 0 0) ∧ w = w' := by
  obtain ⟨_, _, _, c3, _⟩ := hd.cells
  have hns := ho.ns2
  rw [ho.wlen] at c3
  have hcase : s < 0 ∨ (0 ≤ s ∧ (d.ns : Int) ≤ s) := by omega
  clear hd ho h
  rcases hcase with h1 | ⟨h1, h2⟩
  all_goals
    go_enter Try.func49, Try.ntmps49
    go_wp2
    go_ret
    exact ⟨rfl, rfl⟩
end Go.Proofs.Ytgonnddgljgghaa
