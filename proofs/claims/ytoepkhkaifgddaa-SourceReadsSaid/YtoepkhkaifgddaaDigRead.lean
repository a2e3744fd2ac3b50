/- digits.Read and the reference's Read, walked. No condition. -/
import Derived.Test.YtoepkhkaifgddaaDigText
import Derived.Test.YtoepkhkaifgddaaDecRead
namespace Go.Proofs.Ytoepkhkaifgddaa
open Go.RowKit

theorem headD_getElem (l : List UInt8) (h : 0 < l.length) : l.headD 0 = l[0] := by cases l with
  | nil => simp at h
  | cons a l => rfl
theorem byte_of_beq {b : UInt8} (h : ((b.toNat : Int) == 48) = true) : b = 48 := by
  apply UInt8.toNat_inj.1
  have : b.toNat = 48 := by rw [beq_iff_eq] at h; omega
  rw [this]; rfl
theorem take_snoc (s : ByteArray) (k : Nat) (h : k < s.size) : (bytesOf s).take (k + 1) = (bytesOf s).take k ++ [s[k]] := by
  rw [List.take_succ_eq_append_getElem (by simpa [bytesOf] using h)]; rfl
theorem strOf_bytes (s : ByteArray) : strOf (bytesOf s) = .string s := by unfold strOf bytesOf; simp
theorem isDig_of {b : UInt8} (h1 : 48 ≤ (b.toNat : Int)) (h2 : (b.toNat : Int) ≤ 57) : isDig b = true := by simp [isDig]; omega
theorem isDig_not {b : UInt8} (h : ¬ (48 ≤ (b.toNat : Int) ∧ (b.toNat : Int) ≤ 57)) : isDig b = false := by
  rcases hb : isDig b
  · rfl
  · simp [isDig] at hb; omega
theorem allDig_take (l : List UInt8) (k : Nat) (h : allDig l = true) : allDig (l.take k) = true := by
  unfold allDig at *
  rw [List.all_eq_true] at *
  exact fun x hx => h x (List.mem_of_mem_take hx)
theorem allDig_pos {l : List UInt8} {k : Nat} (h : allDig l = true) (hk : k ≤ 10) : 0 ≤ valI (l.take k) ∧ valI (l.take k) ≤ 283333333305 :=
  ⟨valI_pos _ (allDig_take l k h), (valI_10 _ (by simp; omega)).2⟩

set_option maxRecDepth 100000 in
set_option maxHeartbeats 1000000 in
theorem rread_any (s : ByteArray) (w : World) (hs : s.size ≤ maxLen) :
    Calls Try.prog 54 #[.string s] w fun e w' => e = .returned (.tuple #[.int .i64 (readR (bytesOf s)).1, .int .i64 (readR (bytesOf s)).2]) ∧ Keep [] w w' := by
  unfold maxLen at hs
  go_enter Try.func54, Try.ntmps54
  go_wp2
  go_loop [4, 5] (fun vn vi => ∃ k : Nat, k ≤ 10 ∧ k ≤ s.size ∧ vi = .int .i64 k ∧ vn = .int .i64 (valI ((bytesOf s).take k))) (fun _ vi => 10 - (intOf vi).toNat)
  case atStart => exact ⟨0, by omega, by omega, rfl, rfl⟩
  case round =>
    obtain ⟨k, hk, hks, rfl, rfl⟩ := hrel
    have hb := valI_10 ((bytesOf s).take k) (by simp; omega)
    by_cases hlt : k < s.size
    · by_cases h10 : k < 10
      · have ht : Hid (valI ((bytesOf s).take (k + 1)) = 10 * valI ((bytesOf s).take k) + (s[k].toNat : Int) - 48) := by show _ = _; rw [take_snoc s k hlt, valI_snoc]
        generalize valI ((bytesOf s).take k) = v at *
        have hb8 : s[k].toNat < 256 := s[k].toNat_lt
        go_wp2
        go_round
        case rel => exact ⟨k + 1, by omega, by omega, by go_num, by rw [ht.out]⟩
        case measure => simp [intOf] <;> omega
      · obtain rfl : k = 10 := by omega
        obtain ⟨v, hvv⟩ : ∃ v, v = valI ((bytesOf s).take 10) := ⟨_, rfl⟩
        have hv : Hid (v = valI ((bytesOf s).take 10)) := by
          show _ = _
          rw [hvv]
        rw [← hvv] at hb ⊢
        clear hvv
        by_cases h0 : v < 0
        · have hf : Hid (readR (bytesOf s) = (0, 10)) := by show _ = _; unfold readR; rw [← hv.out, if_pos (.inl h0)]
          go_wp2_with fail
          go_ret2
          exact ⟨by rw [hf.out]; rfl, Keep.refl _ _⟩
        · go_wp2_with fail
          refine (rtext_any v _).mono ?_
          rintro e w' ⟨S, rfl, hS, hk'⟩
          have hbq := toList_beq S s
          rw [hS] at hbq
          have HS := Lib.hid hS
          clear hS
          by_cases hR : decL (clampN v) = bytesOf s
          · have hf : Hid (readR (bytesOf s) = (v, 0)) := by show _ = _; unfold readR; rw [← hv.out, if_neg (by rintro (h | h); omega; exact h hR)]
            have hd : (S.toList == s.toList) = true := by rw [hbq]; simp [hR]
            clear hR hbq
            go_wp2_with fail
            go_ret2
            exact ⟨by rw [hf.out]; rfl, hk'⟩
          · have hf : Hid (readR (bytesOf s) = (0, 10)) := by show _ = _; unfold readR; rw [← hv.out, if_pos (.inr hR)]
            have hd : (S.toList == s.toList) = false := by rw [hbq]; simp [hR]
            clear hR hbq
            go_wp2_with fail
            go_ret2
            exact ⟨by rw [hf.out]; rfl, hk'⟩
    · have hk1 : k = s.size := by omega
      obtain ⟨v, hvv⟩ : ∃ v, v = valI ((bytesOf s).take k) := ⟨_, rfl⟩
      have hv : Hid (v = valI ((bytesOf s).take 10)) := by
        show _ = _
        rw [hvv, List.take_of_length_le (by rw [bytesOf_len]; omega), List.take_of_length_le (by rw [bytesOf_len]; omega)]
      rw [← hvv] at hb ⊢
      clear hvv
      by_cases h0 : v < 0
      · have hf : Hid (readR (bytesOf s) = (0, 10)) := by show _ = _; unfold readR; rw [← hv.out, if_pos (.inl h0)]
        go_wp2_with fail
        go_ret2
        exact ⟨by rw [hf.out]; rfl, Keep.refl _ _⟩
      · go_wp2_with fail
        refine (rtext_any v _).mono ?_
        rintro e w' ⟨S, rfl, hS, hk'⟩
        have hbq := toList_beq S s
        rw [hS] at hbq
        have HS := Lib.hid hS
        clear hS
        by_cases hR : decL (clampN v) = bytesOf s
        · have hf : Hid (readR (bytesOf s) = (v, 0)) := by show _ = _; unfold readR; rw [← hv.out, if_neg (by rintro (h | h); omega; exact h hR)]
          have hd : (S.toList == s.toList) = true := by rw [hbq]; simp [hR]
          clear hR hbq
          go_wp2_with fail
          go_ret2
          exact ⟨by rw [hf.out]; rfl, hk'⟩
        · have hf : Hid (readR (bytesOf s) = (0, 10)) := by show _ = _; unfold readR; rw [← hv.out, if_pos (.inr hR)]
          have hd : (S.toList == s.toList) = false := by rw [hbq]; simp [hR]
          clear hR hbq
          go_wp2_with fail
          go_ret2
          exact ⟨by rw [hf.out]; rfl, hk'⟩

set_option maxRecDepth 100000 in
set_option maxHeartbeats 1000000 in
theorem read_any (s : ByteArray) (w : World) (hs : s.size ≤ maxLen) :
    Calls Try.prog 82 #[.string s] w fun e w' => e = .returned (.tuple #[.int .i64 (readP (bytesOf s)).1, .int .i64 (readP (bytesOf s)).2]) ∧ w = w' := by
  unfold maxLen at hs
  have hl := bytesOf_len s
  have hE : s.toList.isEmpty = decide (s.size = 0) := by
    rw [Bool.eq_iff_iff, ByteArray.toList_eq, List.isEmpty_iff, decide_eq_true_iff, ← hl]; exact List.length_eq_zero_iff.symm
  have hE' : (s.toList == []) = decide (s.size = 0) := by
    rw [← hE]; cases s.toList <;> rfl
  by_cases h0 : s.size = 0
  · have hf : Hid (readP (bytesOf s) = (0, 10)) := by
      show _ = _
      unfold readP; rw [if_pos (.inl (List.eq_nil_of_length_eq_zero (by omega)))]
    have hE1 : (s.toList == []) = true := by rw [hE']; simp [h0]
    clear hE hE'
    go_enter Try.func82, Try.ntmps82
    go_wp2
    go_ret2
    exact ⟨by rw [hf.out]; rfl, rfl⟩
  have hE1 : (s.toList == []) = false := by rw [hE']; simp [h0]
  have hE2 : s.toList.isEmpty = false := by rw [hE]; simp [h0]
  have hne : Hid (bytesOf s ≠ []) := fun h => h0 (by rw [← hl, h]; rfl)
  clear hE hE'
  by_cases h10 : 10 < s.size
  · have hf : Hid (readP (bytesOf s) = (0, 10)) := by
      show _ = _
      unfold readP; rw [if_pos (.inr (.inl (by omega)))]
    clear hl
    go_enter Try.func82, Try.ntmps82
    go_wp2
    go_ret2
    exact ⟨by rw [hf.out]; rfl, rfl⟩
  have hpos : 0 < s.size := by omega
  have hd0 : (bytesOf s).headD 0 = s[0] := by
    have e : (bytesOf s)[0]'(by omega) = s[0] := rfl
    rw [← e, headD_getElem]
  by_cases hlead : lead (bytesOf s) = true
  · have hf : Hid (readP (bytesOf s) = (0, 10)) := by
      show _ = _
      unfold readP; rw [if_pos (.inr (.inr hlead))]
    unfold lead at hlead
    rw [hd0, hl] at hlead
    simp only [Bool.and_eq_true, decide_eq_true_eq] at hlead
    have h1 : (1 : Int) < (s.size : Int) := by omega
    have h2 : ((s[0].toNat : Int) == 48) = true := by have := hlead.2; rw [beq_iff_eq] at this; rw [this]; rfl
    clear hl hlead hd0
    go_enter Try.func82, Try.ntmps82
    go_wp2
    go_ret2
    exact ⟨by rw [hf.out]; rfl, rfl⟩
  have hf : Hid (readP (bytesOf s) = if allDig (bytesOf s) = true then (if 2147483647 < valI (bytesOf s) then (0, 10) else (valI (bytesOf s), 0)) else (0, 10)) := by
    show _ = _
    unfold readP; rw [if_neg]
    rintro (h | h | h)
    · exact hne.out h
    · omega
    · exact hlead h
  have hL : Hid ((bytesOf s).length = s.size) := hl
  have hcase : ¬ (1 : Int) < (s.size : Int) ∨ (1 : Int) < (s.size : Int) ∧ ((s[0].toNat : Int) == 48) = false := by
    unfold lead at hlead
    rw [hd0, hl] at hlead
    simp only [Bool.and_eq_true, decide_eq_true_eq, beq_iff_eq] at hlead
    by_cases h1 : (1 : Int) < (s.size : Int)
    · refine .inr ⟨h1, ?_⟩
      rcases hb : ((s[0].toNat : Int) == 48)
      · rfl
      · exact absurd ⟨by omega, byte_of_beq hb⟩ hlead
    · exact .inl h1
  clear hl hlead hd0
  rcases hcase with h1 | ⟨h1, h2⟩
  all_goals
    go_enter Try.func82, Try.ntmps82
    go_wp2
    go_loop [4, 25] (fun vn vi => ∃ k : Nat, k ≤ s.size ∧ vi = .int .i64 k ∧ vn = .int .i64 (valI ((bytesOf s).take k)) ∧ allDig ((bytesOf s).take k) = true) (fun _ vi => s.size - (intOf vi).toNat)
    case atStart => exact ⟨0, by omega, rfl, rfl, rfl⟩
    case round =>
      obtain ⟨k, hk, rfl, rfl, had⟩ := hrel
      have HAD := Lib.hid had
      have hb := valI_pos _ had
      have hb2 := valI_10 ((bytesOf s).take k) (by simp; omega)
      clear had
      by_cases hlt : k < s.size
      · have ht : Hid (valI ((bytesOf s).take (k + 1)) = 10 * valI ((bytesOf s).take k) + (s[k].toNat : Int) - 48) := by show _ = _; rw [take_snoc s k hlt, valI_snoc]
        have hd : Hid (allDig ((bytesOf s).take (k + 1)) = (allDig ((bytesOf s).take k) && isDig s[k])) := by show _ = _; rw [take_snoc s k hlt, allDig_snoc]
        have hb8 : s[k].toNat < 256 := s[k].toNat_lt
        by_cases hc : 48 ≤ (s[k].toNat : Int) ∧ (s[k].toNat : Int) ≤ 57
        · obtain ⟨hc1, hc2⟩ := hc
          have hdd : Hid (allDig ((bytesOf s).take (k + 1)) = true) := by show _ = _; rw [hd.out, HAD.out, isDig_of hc1 hc2]; rfl
          go_wp2
          go_round
          case rel => exact ⟨k + 1, by omega, by go_num, by rw [ht.out]; go_num, hdd.out⟩
          case measure => simp [intOf] <;> omega
        · have hbad : Hid (allDig (bytesOf s) = false) := by
            show _ = _
            rcases hb9 : allDig (bytesOf s)
            · rfl
            · have := allDig_take _ (k + 1) hb9
              rw [hd.out, isDig_not hc] at this
              simp at this
          have hc3 : (s[k].toNat : Int) < 48 ∨ (48 ≤ (s[k].toNat : Int) ∧ 57 < (s[k].toNat : Int)) := by omega
          clear hc
          rcases hc3 with hc4 | ⟨hc4, hc5⟩
          all_goals
            go_wp2
            go_ret2
            exact ⟨by rw [hf.out, if_neg (by rw [hbad.out]; decide)]; rfl, rfl⟩
      · have hall : Hid ((bytesOf s).take k = bytesOf s) := by show _ = _; exact List.take_of_length_le (by rw [hL.out]; omega)
        by_cases hbig : 2147483647 < valI ((bytesOf s).take k)
        · have hf2 : Hid (readP (bytesOf s) = (0, 10)) := by
            show _ = _
            rw [hf.out, if_pos (by rw [← hall.out]; exact HAD.out), if_pos (by rw [← hall.out]; exact hbig)]
          go_wp2
          go_ret2
          exact ⟨by rw [hf2.out]; rfl, rfl⟩
        · have hf2 : Hid (readP (bytesOf s) = (valI ((bytesOf s).take k), 0)) := by
            show _ = _
            rw [hf.out, if_pos (by rw [← hall.out]; exact HAD.out), if_neg (by rw [← hall.out]; exact hbig), hall.out]
          go_wp2
          go_ret2
          exact ⟨by rw [hf2.out]; rfl, rfl⟩

end Go.Proofs.Ytoepkhkaifgddaa
