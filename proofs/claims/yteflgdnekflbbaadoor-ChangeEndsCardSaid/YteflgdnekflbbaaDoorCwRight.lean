/- The words of an image, as plain data; no program in sight. What an image that may be is like; how many words it has; no program in sight. -/
import Derived.Test.YteflgdnekflbbaaDoorUses
import Derived.Test.YteflgdnekflbbaaDoorImgC
import Derived.Test.YteflgdnekflbbaaDoorRightI
import Derived.Test.YteflgdnekflbbaaDoorMaskAll
namespace Go.Proofs.YteflgdnekflbbaaDoor

/-- The set of a task's resources, of the first k. -/
def usesB (l : List Int) : Nat → Nat
  | 0 => 0
  | k + 1 => usesB l k + (if 0 < l.getD k 0 then 2 ^ k else 0)
theorem usesB_lt (l : List Int) : ∀ k, usesB l k < 2 ^ k
  | 0 => by simp [usesB]
  | k + 1 => by
    have := usesB_lt l k
    have h2 := Nat.two_pow_pos k
    rw [usesB, Nat.pow_succ]
    split <;> omega
theorem usesB_step (l : List Int) (k : Nat) (h : 0 < l.getD k 0) : usesB l (k + 1) = usesB l k ||| 2 ^ k := by
  rw [usesB, if_pos h]
  have := Nat.two_pow_add_eq_or_of_lt (usesB_lt l k) 1
  rw [Nat.mul_one] at this
  rw [Nat.or_comm, ← this, Nat.add_comm]
/-- The same set, as the program gathers it. -/
def foldU (l : List PII) : Nat := l.foldl (fun s p => s ||| bitN p.1) 0
theorem foldU_snoc (l : List PII) (p : PII) : foldU (l ++ [p]) = foldU l ||| bitN p.1 := by simp [foldU]
theorem foldU_uses (l : List Int) : ∀ k, k ≤ 32 → foldU (usesK l k) = usesB l k
  | 0, _ => rfl
  | k + 1, hk => by
    rw [usesK]
    by_cases h : 0 < l.getD k 0
    · rw [if_pos h, foldU_snoc, foldU_uses l k (by omega), usesB_step l k h]
      unfold bitN
      rw [if_pos (by simp; omega)]
      simp
    · rw [if_neg h, List.append_nil, foldU_uses l k (by omega), usesB, if_neg h]; rfl
theorem foldU_lt (l : List PII) : foldU l < 4294967296 := by
  have : ∀ (l : List PII) (s : Nat), s < 4294967296 → l.foldl (fun s p => s ||| bitN p.1) s < 4294967296 := by
    intro l
    induction l with
    | nil => exact fun s h => h
    | cons a l ih => exact fun s h => ih _ (Nat.or_lt_two_pow (n := 32) h (bitN_lt a.1))
  exact this l 0 (by decide)

def wordsT (t : Tsk) : List Int := t.per :: t.ded :: t.cost :: (usesB t.lon 8 : Int) :: (usesK t.lon 8).map Prod.snd
def wordsM (m : Mdd) : List Int := (m.set : Int) :: (m.qs.length : Int) :: m.qs.flatMap queInts
/-- The tasks that an edge brings. -/
def freshN (x : Img) (e : Edg) : Nat := minusN (setOf10 x e.to) (setOf10 x e.frm)
def wordsE (x : Img) (e : Edg) : List Int := e.frm :: e.to :: e.prot :: (e.mp ++ if e.prot = 3 then (bitsL (freshN x e)).map (fun k => e.offs.getD k 0) else [])
def headI (x : Img) : List Int := [1380273457, x.res, x.tasks.length, x.modes.length, x.edges.length]
def wordsI (x : Img) : List Int := headI x ++ (x.tasks.flatMap wordsT ++ (x.modes.flatMap wordsM ++ x.edges.flatMap (wordsE x)))
/-- As words of 32 bits. -/
def u32v (n : Int) : Value := .int .u32 (n % 4294967296)
def wordV (l : List Int) : List Value := l.map u32v
theorem wordV_append (l m : List Int) : wordV (l ++ m) = wordV l ++ wordV m := List.map_append
theorem wordV_len (l : List Int) : (wordV l).length = l.length := List.length_map ..
theorem wordsT_len (t : Tsk) : (wordsT t).length ≤ 12 := by
  have := usesK_le t.lon 8
  simp only [wordsT, List.length_cons, List.length_map]
  omega
theorem wordsM_len (m : Mdd) : (wordsM m).length = 2 + 2 * m.qs.length := by
  unfold wordsM
  have : ∀ l : List Que, (l.flatMap queInts).length = 2 * l.length := by
    intro l
    induction l with
    | nil => rfl
    | cons a l ih => rw [List.flatMap_cons, List.length_append, ih, List.length_cons]; simp [queInts]; omega
  rw [List.length_cons, List.length_cons, this]
  omega
end Go.Proofs.YteflgdnekflbbaaDoor

namespace Go.Proofs.YteflgdnekflbbaaDoor

theorem fm_len {α β : Type} (f : α → List β) (c : Nat) : ∀ (l : List α), (∀ a ∈ l, (f a).length ≤ c) → (l.flatMap f).length ≤ l.length * c
  | [], _ => by simp
  | a :: l, h => by
    have := fm_len f c l (fun b hb => h b (by simp [hb]))
    have h1 := h a (by simp)
    rw [List.flatMap_cons, List.length_append, List.length_cons, Nat.add_mul]
    omega
theorem RightI.words_len {x : Img} (h : RightI x) (ho : x.Ok) : (wordsI x).length ≤ 2000 := by
  have h1 := fm_len wordsT 12 x.tasks (fun t _ => wordsT_len t)
  have h2 := fm_len wordsM 10 x.modes (fun m hm => by
    have := (h.mode m hm).2
    unfold quesOk at this
    simp at this
    rw [wordsM_len]; omega)
  have h3 := fm_len (wordsE x) 39 x.edges (fun e he => by
    have h4 := ho.mp e he
    have h5 := bitsL_le (freshN x e)
    unfold wordsE
    simp only [List.length_cons, List.length_append]
    split
    · simp; omega
    · simp; omega)
  have h4 := h.nt
  have h5 := h.nm
  have h6 := h.ne
  unfold wordsI headI
  simp only [List.length_append, List.length_cons, List.length_nil]
  omega
theorem RightI.set_lt {x : Img} (h : RightI x) (m : Int) (k : Nat) (hk : (setOf10 x m).testBit k = true) : k < x.tasks.length := by
  unfold setOf10 at hk
  split at hk
  · rename_i hm
    have hlt : m.toNat < x.modes.length := by omega
    rw [List.getD_eq_getElem?_getD, List.getElem?_eq_getElem hlt] at hk
    have hs := (h.mode _ (List.getElem_mem hlt)).1
    have : (allSet x.tasks.length).testBit k = true := by
      rw [← hs, Nat.testBit_or]
      simp at hk ⊢
      exact .inl hk
    rw [allSet_testBit] at this
    simpa using this
  · simp at hk
theorem RightI.fresh_lt {x : Img} (h : RightI x) (ho : x.Ok) (e : Edg) : ∀ k ∈ bitsL (freshN x e), k < 16 := by
  intro k hk
  have h1 := (bitsL_mem.1 hk).2
  unfold freshN at h1
  rw [minusN_testBit _ _ _ (setOf10_lt x _ ho) (setOf10_lt x _ ho), Bool.and_eq_true] at h1
  have := h.set_lt e.to k h1.1
  have := h.nt
  omega
end Go.Proofs.YteflgdnekflbbaaDoor
