/- The document's has and in; walked. Condition: a text in which a byte is looked for is no longer than a million bytes. -/
import Derived.Test.YtoepkhkaifgddaaStRightW
namespace Go.Proofs.Ytoepkhkaifgddaa
open Go.RowKit

theorem index_ge : ∀ (l : List UInt8) (b : UInt8), -1 ≤ Lib.indexByte l b
  | [], b => by simp [Lib.indexByte]
  | x :: l, b => by
    have ih := index_ge l b
    rw [Lib.indexByte]
    split
    · decide
    · split
      · decide
      · omega
theorem index_mem : ∀ (l : List UInt8) (b : UInt8), 0 ≤ Lib.indexByte l b ↔ b ∈ l
  | [], b => by simp [Lib.indexByte]
  | a :: l, b => by
    have ih := index_mem l b
    have hg := index_ge l b
    rw [Lib.indexByte]
    by_cases h : a = b
    · subst h; simp
    · have h' : ¬ b = a := fun e => h e.symm
      have hc : (a == b) = false := by simpa using h
      simp only [List.mem_cons, h', false_or]
      rw [← ih, hc]
      by_cases h1 : Lib.indexByte l b = -1
      · have h2 : (Lib.indexByte l b == -1) = true := by simpa using h1
        rw [h2, h1]
        simp
      · have h3 : (Lib.indexByte l b == -1) = false := by simpa using h1
        rw [h3]
        simp
        omega
theorem hasB_iff (p : ByteArray) (c : Nat) (hc : c < 256) : hasB p (c : Int) = true ↔ ∃ i, ∃ h : i < p.size, p[i].toNat = c := by
  unfold hasB idxB
  rw [decide_eq_true_eq, index_mem, Int.toNat_natCast]
  constructor
  · intro h
    obtain ⟨i, hi, he⟩ := List.getElem_of_mem h
    refine ⟨i, by simpa using hi, ?_⟩
    have : p[i]'(by simpa using hi) = c.toUInt8 := by rw [← he]; rfl
    rw [this]
    simp
    omega
  · rintro ⟨i, hi, he⟩
    have h1 : c.toUInt8 = p.data.toList[i]'(by simpa using hi) := by
      apply UInt8.toNat_inj.1
      rw [show (p.data.toList[i]'(by simpa using hi)) = p[i] from rfl, he]
      simp
      omega
    rw [h1]
    exact List.getElem_mem _

set_option maxRecDepth 100000 in
theorem rhas_any (p : ByteArray) (c : Nat) (hc : c < 256) (hp : p.size ≤ 1000000) (w : World) : Calls Try.prog 58 #[.string p, .int .u8 (c : Int)] w fun e w' => e = .returned (.bool (hasB p (c : Int))) ∧ w = w' := by
  have HB := Lib.hid (hasB_iff p c hc)
  generalize hasB p (c : Int) = hb at *
  go_enter Try.func58, Try.ntmps58
  go_wp2
  go_loopw [5] (fun v5 wr => ∃ i : Nat, i ≤ p.size ∧ v5 = .int .i64 (i : Int) ∧ (∀ j, j < i → (h : j < p.size) → p[j].toNat ≠ c) ∧ w = wr) (fun v5 _ => p.size - (intOf v5).toNat)
  case atStart => exact ⟨0, Nat.zero_le _, rfl, fun j h => absurd h (by omega), rfl⟩
  case round =>
    obtain ⟨i, hi, rfl, hn, rfl⟩ := hrel
    by_cases hlt : i < p.size
    · by_cases he : p[i].toNat = c
      · have h1 : ((p[i].toNat : Int) == (c : Int)) = true := by simp [he]
        have h2 : Hid (hb = true) := HB.out.2 ⟨i, hlt, he⟩
        clear he hn
        go_wp2
        go_ret
        exact ⟨by rw [h2.out]; rfl, rfl⟩
      · have h1 : ((p[i].toNat : Int) == (c : Int)) = false := by rw [beq_eq_false_iff_ne]; omega
        have hn2 : Hid (∀ j, j < i + 1 → (h : j < p.size) → p[j].toNat ≠ c) := fun j hj h => by
          rcases Nat.lt_or_ge j i with hji | hji
          · exact hn j hji h
          · obtain rfl : j = i := by omega
            exact he
        clear he hn
        go_wp2
        go_roundw
        case rel => exact ⟨i + 1, by omega, by go_num, hn2.out, trivial⟩
        case measure => simp [intOf]; omega
    · have h2 : Hid (hb = false) := by
        show _ = _
        cases h : hb
        · rfl
        · obtain ⟨j, hj, he⟩ := HB.out.1 h
          exact absurd he (hn j (by omega) hj)
      clear hn
      go_wp2
      go_ret
      exact ⟨by rw [h2.out]; rfl, rfl⟩

set_option maxRecDepth 100000 in
theorem rin_any (n : Int) (w : World) : Calls Try.prog 57 #[.int .i64 n] w fun e w' => e = .returned (.bool (numB n)) ∧ w = w' := by
  unfold numB
  rcases Int.lt_or_le n 0 with h | h
  · have h1 : decide (0 ≤ n) = false := decide_eq_false (by omega)
    rw [h1]
    go_enter Try.func57, Try.ntmps57
    go_wp2
    go_ret
    exact ⟨by simp, rfl⟩
  · rcases Int.lt_or_le 2147483647 n with h2 | h2
    · have e1 : decide (0 ≤ n) = true := decide_eq_true h
      have e2 : decide (n ≤ 2147483647) = false := decide_eq_false (by omega)
      rw [e1, e2]
      go_enter Try.func57, Try.ntmps57
      go_wp2
      go_ret
      exact ⟨by simp, rfl⟩
    · have e1 : decide (0 ≤ n) = true := decide_eq_true h
      have e2 : decide (n ≤ 2147483647) = true := decide_eq_true h2
      rw [e1, e2]
      go_enter Try.func57, Try.ntmps57
      go_wp2
      go_ret
      exact ⟨by simp, rfl⟩
end Go.Proofs.Ytoepkhkaifgddaa
