/- The law's helper modes: what is told of a mode is what is told of its tasks. Condition: the table of math/bits lies where the program's text lays it; small numbers. -/
import Derived.Test.YtggjhjbcdnffnaaGreatDoorStLaw
namespace Go.Proofs.YtggjhjbcdnffnaaGreatDoor
open Go.RowKit

/-- The numbers of a set that are less than n. -/
def lowL (q n : Nat) : List Nat := (List.range n).filter (fun i => q.testBit i)
theorem lowL_succ (q n : Nat) : lowL q (n + 1) = lowL q n ++ (if q.testBit n = true then [n] else []) := by
  unfold lowL
  rw [List.range_succ, List.filter_append]
  by_cases h : q.testBit n = true <;> simp [h]
theorem bits_low (q n : Nat) (hn : n ≤ 32) (hw : ∀ i, n ≤ i → q.testBit i = false) : bitsL q = lowL q n := by
  have key : ∀ j, n + j ≤ 32 → (List.range (n + j)).filter (fun i => q.testBit i) = lowL q n := by
    intro j
    induction j with
    | zero => intro _; rfl
    | succ j ih =>
      intro hj
      rw [show n + (j + 1) = (n + j) + 1 by omega, List.range_succ, List.filter_append, ih (by omega)]
      simp [hw (n + j) (by omega)]
  have := key (32 - n) (by omega)
  rw [show n + (32 - n) = 32 by omega] at this
  exact this
theorem lowL_lt {q n i : Nat} (h : i ∈ lowL q n) : i < n := by
  unfold lowL at h
  exact List.mem_range.1 (List.mem_filter.1 h).1
/-- The first task that may be late, by the document. -/
def rlate (x : Img) (q n : Nat) : Option Nat := (lowL q n).find? (fun i => (rrespM x q q q i).isNone)
theorem rmode_find (x : Img) (q : Nat) (hn : x.tasks.length ≤ 16) : rmode x q = match rlate x q x.tasks.length with | some i => (i : Int) | none => -1 := by
  have key : ∀ (j k : Nat), k + j = x.tasks.length → rlate x q k = none → rmodeFrom x q j k = match rlate x q x.tasks.length with | some i => (i : Int) | none => -1 := by
    intro j
    induction j with
    | zero => intro k hk hl; rw [show x.tasks.length = k by omega, hl]; rfl
    | succ j ih =>
      intro k hk hl
      rw [rmodeFrom, has10_nat (by omega)]
      have hs : rlate x q (k + 1) = if (q.testBit k && (rrespM x q q q k).isNone) = true then some k else none := by
        unfold rlate at hl ⊢
        rw [lowL_succ, List.find?_append, hl]
        by_cases hb : q.testBit k = true
        · rw [if_pos hb, hb, Bool.true_and]
          by_cases hr : (rrespM x q q q k).isNone = true <;> simp [hr]
        · rw [if_neg hb]; simp [hb]
      by_cases hb : (q.testBit k && (rrespM x q q q k).isNone) = true
      · rw [if_pos hb] at hs ⊢
        have pre : ∀ m, k + 1 ≤ m → rlate x q m = some k := by
          intro m
          induction m with
          | zero => intro h; omega
          | succ m ih2 =>
            intro h
            rcases Nat.lt_or_ge m (k + 1) with h1 | h1
            · obtain rfl : m = k := by omega
              exact hs
            · have := ih2 h1
              unfold rlate at this ⊢
              rw [lowL_succ, List.find?_append, this]; rfl
        rw [pre x.tasks.length (by omega)]
      · rw [if_neg hb] at hs ⊢
        exact ih (k + 1) (by omega) hs
  exact key x.tasks.length 0 (by omega) rfl
/-- What is known of a task, by the document. -/
def rrow (x : Img) (q i : Nat) : RowM := ⟨(i : Int), rblock x.tasks q q i, (rrespM x q q q i).getD 0⟩
theorem mode_same {x : Img} (h : Small x) (q : Nat) (hq : q < 4294967296) (hw : ∀ i, x.tasks.length ≤ i → q.testBit i = false) :
    modeM x q = match rlate x q x.tasks.length with | some i => ⟨[], i, false⟩ | none => ⟨(lowL q x.tasks.length).map (rrow x q), 0, true⟩ := by
  have hn := h.n
  unfold modeM
  have hl : lateIn x q (ceilOf x.tasks q) (bitsL q) = rlate x q x.tasks.length := by
    unfold lateIn rlate
    rw [bits_low q x.tasks.length (by omega) hw]
    have : ∀ l : List Nat, (∀ i ∈ l, i < x.tasks.length) → l.find? (fun (i : Nat) => !(respM x q q (ceilOf x.tasks q) (i : Int)).2) = l.find? (fun i => (rrespM x q q q i).isNone) := by
      intro l
      induction l with
      | nil => intro _; rfl
      | cons a l ih =>
        intro hl
        rw [List.find?_cons, List.find?_cons, resp_same h q q q a hq (hl a (by simp)), ih (fun i hi => hl i (by simp [hi]))]
        cases rrespM x q q q a <;> rfl
    exact this _ (fun i hi => lowL_lt hi)
  rw [hl]
  cases rlate x q x.tasks.length with
  | some i => rfl
  | none =>
    show ModeM.mk _ _ _ = _
    congr 1
    unfold rowsIn
    rw [bits_low q x.tasks.length (by omega) hw]
    exact List.map_congr_left (fun i hi => by rw [resp_same h q q q i hq (lowL_lt hi)]; rfl)
theorem low_get (q : Nat) : ∀ (n i : Nat), i < n → q.testBit i = true → ∃ r, lowL q n = lowL q i ++ i :: r
  | 0, i, h, _ => by omega
  | n + 1, i, h, hb => by
    rcases Nat.lt_or_ge i n with h1 | h1
    · obtain ⟨r, hr⟩ := low_get q n i h1 hb
      rw [lowL_succ, hr]
      exact ⟨r ++ (if q.testBit n = true then [n] else []), by simp⟩
    · obtain rfl : i = n := by omega
      rw [lowL_succ, if_pos hb]
      exact ⟨[], rfl⟩
theorem slack_row {x : Img} (q i : Nat) (t : Tsk) (ht : x.tasks[i]? = some t) : aheadOf x.tasks (rrow x q i) = t.ded - (rrespM x q q q i).getD 0 := by
  unfold aheadOf rrow
  rw [Int.toNat_natCast, ht]
theorem rresp_le {x : Img} (h : Small x) (q k : Nat) (t : Tsk) (ht : x.tasks[k]? = some t) : 0 ≤ (rrespM x q q q k).getD 0 ∧ (rrespM x q q q k).getD 0 ≤ t.ded := by
  have hm := List.mem_of_getElem? ht
  have hd := h.ded t hm
  cases hr : rrespM x q q q k with
  | none => show 0 ≤ (0 : Int) ∧ (0 : Int) ≤ t.ded; omega
  | some n =>
    show 0 ≤ n ∧ n ≤ t.ded
    unfold rrespM at hr
    rw [ht] at hr
    have hn := h.n
    have hc := h.cost t hm
    have hk : k < x.tasks.length := (List.getElem?_eq_some_iff.1 ht).1
    have hal := aheadK_le x.tasks q k
    have hb := rblockTo_le h q q k 8
    have := leastR_some (fun u hu => good_term h q k u hu) (by omega) (by unfold rblock; omega) (by unfold rblock; omega) (by omega) hr
    omega
end Go.Proofs.YtggjhjbcdnffnaaGreatDoor
