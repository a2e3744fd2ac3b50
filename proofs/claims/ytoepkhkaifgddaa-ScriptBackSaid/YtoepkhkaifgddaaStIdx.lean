/- Where a byte lies first in a text; has a shape a part; a piece parted at a byte. No condition. -/
import Derived.Test.YtoepkhkaifgddaaStShape
import Derived.Lib.Bytealg
namespace Go.Proofs.Ytoepkhkaifgddaa
open Go.RowKit

set_option maxRecDepth 100000 in
theorem slIdx_any (s : ByteArray) (c : Int) (w : World) :
    Calls Try.prog 92 #[.string s, .int .u8 c] w fun e w' => e = .returned (.int .i64 (Lib.indexByte s.data.toList c.toNat.toUInt8)) ∧ w = w' := by
  go_enter Try.func92, Try.ntmps92
  go_wp2
  rw [run_callFunc_extern Try.func94 (by kernel_rfl) (by kernel_rfl) (by kernel_rfl) (e := Extern.BytealgIndexByte.indexByte) (by kernel_rfl), Lib.run_indexByteString]
  simp only [Result.andThen]
  rw [Oper.upon_value]
  go_wp2
  go_ret
  exact ⟨rfl, rfl⟩
set_option maxRecDepth 100000 in
theorem sIdx_any (s : ByteArray) (c : Int) (w : World) :
    Calls Try.prog 85 #[.string s, .int .u8 c] w fun e w' => e = .returned (.int .i64 (Lib.indexByte s.data.toList c.toNat.toUInt8)) ∧ w = w' := by
  go_enter Try.func85, Try.ntmps85
  go_wp2_with fail
  refine (slIdx_any s c w).mono ?_
  rintro e w' ⟨rfl, rfl⟩
  go_wp2
  go_ret
  exact ⟨rfl, rfl⟩
/-- Where a byte lies first; -1: nowhere. -/
abbrev idxB (s : ByteArray) (c : Int) : Int := Lib.indexByte s.data.toList c.toNat.toUInt8
theorem idxB_lt (s : ByteArray) (c : Int) : idxB s c < s.size := by
  have : ∀ (l : List UInt8) (c : UInt8), Lib.indexByte l c < l.length + (if l = [] then 1 else 0) ∧ Lib.indexByte l c < l.length ∨ l = [] := by
    intro l c
    induction l with
    | nil => exact .inr rfl
    | cons b l ih =>
      left
      have h2 : Lib.indexByte (b :: l) c < (b :: l).length := by
        rw [Lib.indexByte]
        rcases ih with ih | rfl
        · split
          · simp
          · split
            · simp; omega
            · simp; omega
        · simp [Lib.indexByte]; split <;> simp
      exact ⟨by simpa using h2, h2⟩
  rcases this s.data.toList c.toNat.toUInt8 with h | h
  · have := h.2; simpa using this
  · unfold idxB; rw [h]; simp [Lib.indexByte]; omega
set_option maxRecDepth 100000 in
theorem has_any' (a p : ByteArray) (c : Int) (w : World) :
    Calls Try.prog 50 #[.agg #[.string a, .string p], .int .u8 c] w fun e w' => e = .returned (.bool (decide (0 ≤ idxB p c))) ∧ Keep [] w w' := by
  go_enter Try.func50, Try.ntmps50
  go_wp2_with fail
  refine (sIdx_any p c _).mono ?_
  rintro e w' ⟨rfl, rfl⟩
  go_wp2
  go_ret
  exact ⟨rfl, (Keep.refl _ w).alloc _⟩
/-- A piece parted at the first such byte; false: there is none. -/
def splitB (s : ByteArray) (c : Int) : ByteArray × ByteArray × Bool :=
  if 0 ≤ idxB s c then (s.extract 0 (idxB s c).toNat, s.extract ((idxB s c).toNat + 1) s.size, true) else ({ data := #[] }, { data := #[] }, false)
set_option maxRecDepth 100000 in
theorem split_any (s : ByteArray) (c : Int) (w : World) (hs : s.size ≤ 1000000) :
    Calls Try.prog 91 #[.string s, .int .u8 c] w fun e w' => e = .returned (.tuple #[.string (splitB s c).1, .string (splitB s c).2.1, .bool (splitB s c).2.2]) ∧ Keep [] w w' := by
  have hlt := idxB_lt s c
  by_cases h : 0 ≤ idxB s c
  · obtain ⟨n, hn⟩ : ∃ n : Nat, idxB s c = n := ⟨(idxB s c).toNat, by omega⟩
    have HC := Lib.hid (sIdx_any s c w)
    have hsp : splitB s c = (s.extract 0 n, s.extract (n + 1) s.size, true) := by unfold splitB; rw [if_pos h, hn]; rfl
    rw [hsp]
    have HC2 : Hid (Calls Try.prog 85 #[.string s, .int .u8 c] w fun e w' => e = .returned (.int .i64 (n : Int)) ∧ w = w') := by rw [← hn]; exact HC
    rw [hn] at hlt
    have q1 : ¬ ((n : Int) < 0) := by omega
    have q2 : (n : Int) + 1 ≤ s.size := by omega
    have q3 : (n : Int) ≤ s.size := by omega
    have q4 : (0 : Int) ≤ (n : Int) := by omega
    clear h hn hsp HC
    go_enter Try.func91, Try.ntmps91
    go_wp2_with fail
    refine HC2.out.mono ?_
    rintro e w' ⟨rfl, rfl⟩
    go_wp2
    go_region
    go_wp2
    go_ret3
    exact ⟨rfl, (Keep.refl _ _).drew⟩
  · have HC := Lib.hid (sIdx_any s c w)
    have hsp : splitB s c = ({ data := #[] }, { data := #[] }, false) := by unfold splitB; rw [if_neg h]
    rw [hsp]
    obtain ⟨n, hn⟩ : ∃ n : Int, idxB s c = n := ⟨_, rfl⟩
    have HC2 : Hid (Calls Try.prog 85 #[.string s, .int .u8 c] w fun e w' => e = .returned (.int .i64 n) ∧ w = w') := by rw [← hn]; exact HC
    rw [hn] at h
    have q1 : n < 0 := by omega
    clear h hsp hlt hn HC
    go_enter Try.func91, Try.ntmps91
    go_wp2_with fail
    refine HC2.out.mono ?_
    rintro e w' ⟨rfl, rfl⟩
    go_wp2
    go_ret3
    exact ⟨rfl, Keep.refl _ _⟩
end Go.Proofs.Ytoepkhkaifgddaa
