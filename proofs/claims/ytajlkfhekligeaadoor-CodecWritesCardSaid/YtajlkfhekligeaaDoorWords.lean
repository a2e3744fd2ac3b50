/- The words of an image, as plain data; no program in sight. -/
import Derived.Test.YtajlkfhekligeaaDoorUses
import Derived.Test.YtajlkfhekligeaaDoorImgC
import Derived.Test.YtajlkfhekligeaaDoorMaskAll
namespace Go.Proofs.YtajlkfhekligeaaDoor

/-- The set of a task's resources, of the first k. -/
def usesB (l : List Int) : Nat → Nat
  | 0 => 0
  | k + 1 => usesB l k + (if 0 < l.getD k 0 then 2 ^ k else 0)
theorem usesB_lt (l : List Int) : ∀ k, usesB l k < 2 ^ k
  | 0 => by simp [usesB]
  | k + 1 => by
    have := usesB_lt l k
    have h2 := Nat.two_pow_pos k
    rw [usesB, Nat.pow_succ]
    split <;> omega
theorem usesB_step (l : List Int) (k : Nat) (h : 0 < l.getD k 0) : usesB l (k + 1) = usesB l k ||| 2 ^ k := by
  rw [usesB, if_pos h]
  have := Nat.two_pow_add_eq_or_of_lt (usesB_lt l k) 1
  rw [Nat.mul_one] at this
  rw [Nat.or_comm, ← this, Nat.add_comm]
/-- The same set, as the program gathers it. -/
def foldU (l : List PII) : Nat := l.foldl (fun s p => s ||| bitN p.1) 0
theorem foldU_snoc (l : List PII) (p : PII) : foldU (l ++ [p]) = foldU l ||| bitN p.1 := by simp [foldU]
theorem foldU_uses (l : List Int) : ∀ k, k ≤ 32 → foldU (usesK l k) = usesB l k
  | 0, _ => rfl
  | k + 1, hk => by
    rw [usesK]
    by_cases h : 0 < l.getD k 0
    · rw [if_pos h, foldU_snoc, foldU_uses l k (by omega), usesB_step l k h]
      unfold bitN
      rw [if_pos (by simp; omega)]
      simp
    · rw [if_neg h, List.append_nil, foldU_uses l k (by omega), usesB, if_neg h]; rfl
theorem foldU_lt (l : List PII) : foldU l < 4294967296 := by
  have : ∀ (l : List PII) (s : Nat), s < 4294967296 → l.foldl (fun s p => s ||| bitN p.1) s < 4294967296 := by
    intro l
    induction l with
    | nil => exact fun s h => h
    | cons a l ih => exact fun s h => ih _ (Nat.or_lt_two_pow (n := 32) h (bitN_lt a.1))
  exact this l 0 (by decide)

def wordsT (t : Tsk) : List Int := t.per :: t.ded :: t.cost :: (usesB t.lon 8 : Int) :: (usesK t.lon 8).map Prod.snd
def wordsM (m : Mdd) : List Int := (m.set : Int) :: (m.qs.length : Int) :: m.qs.flatMap queInts
/-- The tasks that an edge brings. -/
def freshN (x : Img) (e : Edg) : Nat := minusN (setOf10 x e.to) (setOf10 x e.frm)
def wordsE (x : Img) (e : Edg) : List Int := e.frm :: e.to :: e.prot :: (e.mp ++ if e.prot = 3 then (bitsL (freshN x e)).map (fun k => e.offs.getD k 0) else [])
def headI (x : Img) : List Int := [1380273457, x.res, x.tasks.length, x.modes.length, x.edges.length]
def wordsI (x : Img) : List Int := headI x ++ (x.tasks.flatMap wordsT ++ (x.modes.flatMap wordsM ++ x.edges.flatMap (wordsE x)))
/-- As words of 32 bits. -/
def u32v (n : Int) : Value := .int .u32 (n % 4294967296)
def wordV (l : List Int) : List Value := l.map u32v
theorem wordV_append (l m : List Int) : wordV (l ++ m) = wordV l ++ wordV m := List.map_append
theorem wordV_len (l : List Int) : (wordV l).length = l.length := List.length_map ..
theorem wordsT_len (t : Tsk) : (wordsT t).length ≤ 12 := by
  have := usesK_le t.lon 8
  simp only [wordsT, List.length_cons, List.length_map]
  omega
theorem wordsM_len (m : Mdd) : (wordsM m).length = 2 + 2 * m.qs.length := by
  unfold wordsM
  have : ∀ l : List Que, (l.flatMap queInts).length = 2 * l.length := by
    intro l
    induction l with
    | nil => rfl
    | cons a l ih => rw [List.flatMap_cons, List.length_append, ih, List.length_cons]; simp [queInts]; omega
  rw [List.length_cons, List.length_cons, this]
  omega
end Go.Proofs.YtajlkfhekligeaaDoor
