/- Too many steps, or too large ones: the law's own test. No condition. -/
import Derived.Test.YtoepkhkaifgddaaStRSame
namespace Go.Proofs.Ytoepkhkaifgddaa
open Go.RowKit

/-- A step with too many sections or words. -/
def bigS (s : Stp) : Bool := decide (200 < s.secs.length) || decide (200 < s.words.length)
def greatS (l : List Stp) : Bool := decide (600 < l.length) || l.any bigS
theorem greatS_ok {l : List Stp} (h : greatS l = false) : l.length ≤ 600 ∧ ∀ s ∈ l, s.secs.length ≤ 200 ∧ s.words.length ≤ 200 := by
  unfold greatS at h
  rw [Bool.or_eq_false_iff] at h
  refine ⟨by have := h.1; simp at this; omega, fun s hs => ?_⟩
  have h2 := (List.any_eq_false.1 h.2) s hs
  unfold bigS at h2
  simp at h2
  omega
theorem any_take {l : List Stp} {k : Nat} (hk : k < l.length) (h : (l.take k).any bigS = false) (e : bigS l[k] = false) : (l.take (k + 1)).any bigS = false := by
  rw [List.take_succ_eq_append_getElem hk, List.any_append, h]
  simp [e]

set_option maxRecDepth 100000 in
set_option maxHeartbeats 2000000 in
theorem stgreat_any (A : Option Addr) (c : Nat) (ms : List (Stp × StpV)) (w : World) (h : StepsAt w A ms) :
    Calls Try.prog 14 #[.slice A ms.length c] w fun e w' => e = .returned (.bool (greatS (stps ms))) ∧ Keep [] w w' := by
  have l1 := h.len
  have hs := h.step
  have lq := Lib.hid h.each
  unfold maxLen at l1
  have hbig := Lib.hid (fun (k : Nat) (hk : k < ms.length) (e : bigS ms[k].1 = true) => (by unfold greatS; rw [Bool.or_eq_true_iff]; exact .inr (List.any_eq_true.2 ⟨ms[k].1, List.mem_map.2 ⟨ms[k], List.getElem_mem hk, rfl⟩, e⟩) : greatS (stps ms) = true))
  have hlen := Lib.hid (fun (e : 600 < ms.length) => (by unfold greatS; simp [e] : greatS (stps ms) = true))
  have hno := Lib.hid (fun (e : ms.length ≤ 600) (e2 : (stps ms).any bigS = false) => (by unfold greatS; rw [e2]; simp; omega : greatS (stps ms) = false))
  clear h
  generalize greatS (stps ms) = r at *
  go_enter Try.func14, Try.ntmps14
  go_wp2
  go_loopg [3] 600 (fun gk i wr => ∃ k : Nat, k + gk = 600 ∧ k ≤ ms.length ∧ i = .int .i64 k ∧ ((stps ms).take k).any bigS = false ∧ Keep [] w wr)
  case atStart => exact ⟨0, by omega, Nat.zero_le _, rfl, rfl, Keep.refl _ _⟩
  case round =>
    obtain ⟨k, hk, hk2, rfl, hany, hkeep⟩ := hrel
    have HK := Lib.hid hk
    have hk9 : k ≤ 600 := by omega
    clear hk
    by_cases hlk : k < ms.length
    · have q1 : ((k : Int) < (ms.length : Int)) := by omega
      by_cases h6 : k < 600
      · have q2 : ((k : Int) < 600) := by omega
        obtain ⟨b, o, hA, hb, hc⟩ := hs (by omega)
        have ci := hc k hlk
        have hst : Hid (bigS ms[k].1 = false → ((stps ms).take (k + 1)).any bigS = false) := fun e => any_take (by simpa using hlk) hany (by simpa using e)
        have hb2 : Hid (bigS ms[k].1 = true → r = true) := hbig.out k hlk
        have c3 := (hkeep.cell (p := ⟨b, o + k * 5 + 3, none⟩) hb (by simp)).trans (ci 3 _ rfl)
        have c4 := (hkeep.cell (p := ⟨b, o + k * 5 + 4, none⟩) hb (by simp)).trans (ci 4 _ rfl)
        have k0 : (0 : Int) ≤ (k : Int) := by omega
        have HKp := Lib.hid hkeep
        have HA := Lib.hid hA
        clear hc ci hany hs lq hbig hlen hno hkeep
        generalize ms[k] = m at *
        obtain ⟨s, v⟩ := m
        simp only at c3 c4 hst hb2
        rw [hA]
        by_cases hg : 200 < s.secs.length
        · have g1 : (200 : Int) < (s.secs.length : Int) := by omega
          have HR := Lib.hid (hb2.out (by simp [bigS, hg]))
          go_wp2
          go_ret
          exact ⟨by rw [HR.out]; rfl, HKp.out⟩
        · have g1 : ¬ (200 : Int) < (s.secs.length : Int) := by omega
          by_cases hg2 : 200 < s.words.length
          · have g2 : (200 : Int) < (s.words.length : Int) := by omega
            have HR := Lib.hid (hb2.out (by simp [bigS, hg2]))
            go_wp2
            go_ret
            exact ⟨by rw [HR.out]; rfl, HKp.out⟩
          · have g2 : ¬ (200 : Int) < (s.words.length : Int) := by omega
            have HR := Lib.hid (hst.out (by simp [bigS]; omega))
            go_wp2
            rw [← HA.out]
            go_roundg (gk - 1)
            case rel => exact ⟨k + 1, by have := HK.out; omega, by omega, by go_num, HR.out, HKp.out⟩
            case measure => have := HK.out; omega
      · have q2 : ¬ ((k : Int) < 600) := by omega
        have q3 : (600 : Int) < (ms.length : Int) := by omega
        have HR := Lib.hid (hlen.out (by omega))
        have HKp := Lib.hid hkeep
        clear hs lq hbig hlen hno hany hkeep
        go_wp2
        go_ret
        exact ⟨by rw [HR.out]; simp, HKp.out⟩
    · have q1 : ¬ ((k : Int) < (ms.length : Int)) := by omega
      have q3 : ¬ (600 : Int) < (ms.length : Int) := by omega
      have HR := Lib.hid (hno.out (by omega) (by rw [List.take_of_length_le (by simp; omega)] at hany; exact hany))
      have HKp := Lib.hid hkeep
      clear hs lq hbig hlen hno hany hkeep
      go_wp2
      go_ret
      exact ⟨by rw [HR.out]; simp, HKp.out⟩
end Go.Proofs.Ytoepkhkaifgddaa
