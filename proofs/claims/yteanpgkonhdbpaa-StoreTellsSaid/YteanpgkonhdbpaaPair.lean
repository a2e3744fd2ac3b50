/- pair and its reference ref05: what each answers, walked. No condition beyond the words being words. -/
import Derived.Test.YteanpgkonhdbpaaRows
import Derived.Test.YteanpgkonhdbpaaFlags
import Derived.Test.YteanpgkonhdbpaaEqI
import Derived.Deep.QuietTactic
import Derived.BigQuiet
namespace Go.Proofs.Yteanpgkonhdbpaa
open Go.RowKit

abbrev W32 : Nat := 4294967296
def shl32 (s k : Nat) : Nat := s * 2 ^ k % 4294967296
/-- The masks' next number. -/
def x1 (s : Nat) : Nat := s ^^^ shl32 s 13
def x2 (s : Nat) : Nat := s ^^^ s / 2 ^ 17
def x3 (s : Nat) : Nat := s ^^^ shl32 s 5
def nextM (s : Nat) : Nat := x3 (x2 (x1 s))
theorem shl32_lt (s k : Nat) : shl32 s k < 4294967296 := Nat.mod_lt _ (by decide)
theorem x1_lt {s : Nat} (h : s < 4294967296) : x1 s < 4294967296 := Nat.xor_lt_two_pow (n := 32) h (shl32_lt s 13)
theorem x2_lt {s : Nat} (h : s < 4294967296) : x2 s < 4294967296 := Nat.xor_lt_two_pow (n := 32) h (Nat.lt_of_le_of_lt (Nat.div_le_self _ _) h)
theorem x3_lt {s : Nat} (h : s < 4294967296) : x3 s < 4294967296 := Nat.xor_lt_two_pow (n := 32) h (shl32_lt s 5)
theorem nextM_lt {s : Nat} (h : s < 4294967296) : nextM s < 4294967296 := x3_lt (x2_lt (x1_lt h))

set_option maxRecDepth 100000 in
set_option maxHeartbeats 400000 in
theorem prises_any (a b : Nat) (w : World) (ha : a < 4294967296) (hb : b < 4294967296) :
    Calls Try.prog 128 #[.int .u32 (a : Int), .int .u32 (b : Int)] w fun e w' => e = .returned (.int .u32 ((a ||| b : Nat) : Int)) ∧ w = w' := by
  have hu := u32_or_nat a b ha hb
  clear ha hb
  go_enter Try.func128, Try.ntmps128
  go_wp2
  go_ret
  exact ⟨rfl, rfl⟩

set_option maxRecDepth 100000 in
set_option maxHeartbeats 400000 in
theorem pfalls_any (a b c : Nat) (w : World) (ha : a < 4294967296) (hb : b < 4294967296) (hc : c < 4294967296) :
    Calls Try.prog 104 #[.int .u32 (a : Int), .int .u32 (b : Int), .int .u32 (c : Int)] w fun e w' => e = .returned (.int .u32 ((a &&& (b ||| c) : Nat) : Int)) ∧ w = w' := by
  have hu := u32_or_nat b c hb hc
  have hv := u32_and_nat a (b ||| c) ha (Nat.or_lt_two_pow (n := 32) hb hc)
  clear ha hb hc
  go_enter Try.func104, Try.ntmps104
  go_wp2
  go_ret
  exact ⟨rfl, rfl⟩

set_option maxRecDepth 100000 in
set_option maxHeartbeats 400000 in
theorem pseeded_any (s : Nat) (w : World) :
    Calls Try.prog 103 #[.int .u32 (s : Int)] w fun e w' => e = .returned (.agg #[.int .u32 ((max s 1 : Nat) : Int)]) ∧ Keep [] w w' := by
  have hA : AggOf Try.prog 169 1 := ⟨by kernel_rfl, by kernel_rfl⟩
  have HA := Lib.hid hA
  clear hA
  rcases Nat.lt_or_ge s 1 with h | h
  · have HM : Hid (max s 1 = 1) := by show _ = _; omega
    go_enter Try.func103, Try.ntmps103
    go_wp2
    refine bodyPost_ret (results_blk rfl _ rfl (vs := [.int .u32 1]) (Blk.new _ _ _) HA.out) rfl ?_
    exact ⟨by rw [HM.out]; rfl, (Keep.refl [] w).alloc _⟩
  · have HM : Hid (max s 1 = s) := by show _ = _; omega
    go_enter Try.func103, Try.ntmps103
    go_wp2
    refine bodyPost_ret (results_blk rfl _ rfl (vs := [.int .u32 (s : Int)]) (Blk.new _ _ _) HA.out) rfl ?_
    exact ⟨by rw [HM.out], (Keep.refl [] w).alloc _⟩

set_option maxRecDepth 100000 in
set_option maxHeartbeats 1000000 in
theorem pnext_any (g s : Nat) (w : World) (hs : s < 4294967296) (hb : Blk w g 169 #[.int .u32 (s : Int)]) :
    Calls Try.prog 105 #[.pointer (some ⟨g, 0, none⟩)] w fun e w' => e = .returned (.int .u32 (s : Int)) ∧ Blk w' g 169 #[.int .u32 (nextM s : Int)] ∧ Keep [g] w w' := by
  have hc := hb.cell 0
  have hf := hb.frozen 0
  simp at hc
  have h1 : bits .xor .u32 (s : Int) ((s : Int) * 8192 % 4294967296) = ((x1 s : Nat) : Int) := by
    have := u32_xor_nat s (shl32 s 13) hs (shl32_lt s 13)
    rw [x1, ← this]; simp [shl32]
  have h2 : bits .xor .u32 (x1 s : Int) ((x1 s : Int) / 131072) = ((x2 (x1 s) : Nat) : Int) := by
    have := u32_xor_nat (x1 s) (x1 s / 2 ^ 17) (x1_lt hs) (Nat.lt_of_le_of_lt (Nat.div_le_self _ _) (x1_lt hs))
    rw [x2, ← this]; simp
  have h3 : bits .xor .u32 (x2 (x1 s) : Int) ((x2 (x1 s) : Int) * 32 % 4294967296) = ((nextM s : Nat) : Int) := by
    have := u32_xor_nat (x2 (x1 s)) (shl32 (x2 (x1 s)) 5) (x2_lt (x1_lt hs)) (shl32_lt _ 5)
    rw [nextM, x3, ← this]; simp [shl32]
  have hfin : Blk (((w.setCell ⟨g, 0, none⟩ (.int .u32 (x1 s : Int))).drew.setCell ⟨g, 0, none⟩ (.int .u32 (x2 (x1 s) : Int))).drew.setCell ⟨g, 0, none⟩ (.int .u32 (nextM s : Int))).drew g 169 #[.int .u32 (nextM s : Int)] :=
    (((hb.set_ 0 _).drew.set_ 0 _).drew.set_ 0 _).drew
  have hkf : Keep [g] w (((w.setCell ⟨g, 0, none⟩ (.int .u32 (x1 s : Int))).drew.setCell ⟨g, 0, none⟩ (.int .u32 (x2 (x1 s) : Int))).drew.setCell ⟨g, 0, none⟩ (.int .u32 (nextM s : Int))).drew :=
    (((((keep_set w g 0 _).drew.trans (keep_set _ g 0 _) (fun x hx _ => hx)).drew).trans (keep_set _ g 0 _) (fun x hx _ => hx))).drew
  have HF := Lib.hid hfin
  have HK := Lib.hid hkf
  clear hfin hkf hb hs
  go_enter Try.func105, Try.ntmps105
  go_wp2
  go_region
  go_wp2
  go_region
  go_wp2
  go_region
  go_wp2
  go_ret
  exact ⟨rfl, HF.out, HK.out⟩
end Go.Proofs.Yteanpgkonhdbpaa
