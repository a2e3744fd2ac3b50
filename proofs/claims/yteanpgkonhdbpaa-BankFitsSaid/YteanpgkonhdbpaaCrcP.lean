/- The sum CRC-32 in plain numbers: bytewise and bitwise it is the same. No condition. -/
import Derived.Test.YteanpgkonhdbpaaBase
namespace Go.Proofs.Yteanpgkonhdbpaa

def polyC : Nat := 3988292384
/-- One round of the bytewise way. -/
def rndC (x : Nat) : Nat := if x.testBit 0 then (x / 2) ^^^ polyC else x / 2
def rndsC : Nat → Nat → Nat
  | 0, x => x
  | k + 1, x => rndC (rndsC k x)
def byteC (s b : Nat) : Nat := rndsC 8 (s ^^^ b)
/-- One bit of the document's way. -/
def bitC (s : Nat) (b : Bool) : Nat := if s.testBit 0 != b then (s / 2) ^^^ polyC else s / 2
def bitsC (s b : Nat) : Nat → Nat
  | 0 => s
  | k + 1 => bitC (bitsC s b k) (b.testBit k)
theorem xor_half (x y : Nat) : (x ^^^ y) / 2 = x / 2 ^^^ y / 2 := by
  apply Nat.eq_of_testBit_eq
  intro i
  rw [Nat.testBit_xor, Nat.testBit_div_two, Nat.testBit_div_two, Nat.testBit_div_two, Nat.testBit_xor]
theorem rnds_bits (s b : Nat) : ∀ k, rndsC k (s ^^^ b) = bitsC s b k ^^^ b / 2 ^ k
  | 0 => by simp [rndsC, bitsC]
  | k + 1 => by
    rw [rndsC, rnds_bits s b k, bitsC, rndC, bitC, Nat.testBit_xor, xor_half]
    have hb : (b / 2 ^ k).testBit 0 = b.testBit k := by rw [Nat.testBit_div_two_pow, Nat.zero_add]
    have hd : b / 2 ^ k / 2 = b / 2 ^ (k + 1) := by rw [Nat.div_div_eq_div_mul, Nat.pow_succ]
    rw [hb, hd]
    have hx : ((bitsC s b k).testBit 0 ^^ b.testBit k) = ((bitsC s b k).testBit 0 != b.testBit k) := rfl
    rw [hx]
    split
    · rw [Nat.xor_assoc, Nat.xor_assoc, Nat.xor_comm polyC]
    · rfl
theorem byte_bits (s : Nat) {b : Nat} (hb : b < 256) : byteC s b = bitsC s b 8 := by
  unfold byteC
  rw [rnds_bits]
  have : b / 2 ^ 8 = 0 := Nat.div_eq_of_lt (by simpa using hb)
  rw [this, Nat.xor_zero]
theorem half_lt {x : Nat} (h : x < 4294967296) : x / 2 < 4294967296 := Nat.lt_of_le_of_lt (Nat.div_le_self _ _) h
theorem rndC_lt {x : Nat} (h : x < 4294967296) : rndC x < 4294967296 := by
  unfold rndC
  split
  · exact Nat.xor_lt_two_pow (n := 32) (half_lt h) (by decide)
  · exact half_lt h
theorem rndsC_lt {x : Nat} (h : x < 4294967296) : ∀ k, rndsC k x < 4294967296
  | 0 => h
  | k + 1 => rndC_lt (rndsC_lt h k)
theorem byteC_lt {s b : Nat} (h : s < 4294967296) (hb : b < 4294967296) : byteC s b < 4294967296 := rndsC_lt (Nat.xor_lt_two_pow (n := 32) h hb) 8
theorem bitC_lt {s : Nat} (h : s < 4294967296) (b : Bool) : bitC s b < 4294967296 := by
  unfold bitC
  split
  · exact Nat.xor_lt_two_pow (n := 32) (half_lt h) (by decide)
  · exact half_lt h
theorem bitsC_lt {s : Nat} (h : s < 4294967296) (b : Nat) : ∀ k, bitsC s b k < 4294967296
  | 0 => h
  | k + 1 => bitC_lt (bitsC_lt h b k) _
/-- The four bytes of a word, the highest first. -/
def bytesW (w : Nat) : List Nat := [w / 16777216, w / 65536 % 256, w / 256 % 256, w % 256]
theorem bytesW_lt {w : Nat} (h : w < 4294967296) : ∀ b ∈ bytesW w, b < 256 := by
  intro b hb
  simp only [bytesW, List.mem_cons, List.not_mem_nil, or_false] at hb
  omega
def wordC (s w : Nat) : Nat := (bytesW w).foldl byteC s
def foldC (s : Nat) (l : List Nat) : Nat := l.foldl wordC s
theorem foldB_lt : ∀ (l : List Nat) {s : Nat}, s < 4294967296 → (∀ b ∈ l, b < 256) → l.foldl byteC s < 4294967296
  | [], _, h, _ => h
  | b :: l, s, h, hl => foldB_lt l (byteC_lt h (Nat.lt_trans (hl b (by simp)) (by decide))) (fun x hx => hl x (by simp [hx]))
theorem wordC_lt {s w : Nat} (h : s < 4294967296) (hw : w < 4294967296) : wordC s w < 4294967296 := foldB_lt _ h (bytesW_lt hw)
theorem foldC_lt : ∀ (l : List Nat) {s : Nat}, s < 4294967296 → (∀ w ∈ l, w < 4294967296) → foldC s l < 4294967296
  | [], _, h, _ => h
  | w :: l, s, h, hl => foldC_lt l (wordC_lt h (hl w (by simp))) (fun x hx => hl x (by simp [hx]))
theorem foldC_snoc (s : Nat) (l : List Nat) (w : Nat) : foldC s (l ++ [w]) = wordC (foldC s l) w := by unfold foldC; rw [List.foldl_append]; rfl
/-- All bytes of words. -/
def bytesL (l : List Nat) : List Nat := l.flatMap bytesW
theorem foldC_bytes (s : Nat) (l : List Nat) : foldC s l = (bytesL l).foldl byteC s := by
  unfold foldC bytesL wordC
  rw [List.foldl_flatMap]
/-- The sum of words. -/
def crcL (l : List Nat) : Nat := 4294967295 - foldC 4294967295 l
end Go.Proofs.Yteanpgkonhdbpaa
