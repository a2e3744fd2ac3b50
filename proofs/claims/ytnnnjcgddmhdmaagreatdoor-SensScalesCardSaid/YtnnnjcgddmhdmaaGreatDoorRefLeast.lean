/- The least time in which all that comes is done: looked for one by one, and by steps. No program in sight. The least time, by the document (layer 16). -/
import Derived.Test.YtnnnjcgddmhdmaaGreatDoorDem
namespace Go.Proofs.YtnnnjcgddmhdmaaGreatDoor

/-- One look: what is there at first, and what comes. -/
def stepM (own : Int) (f : Int → Option Int) (w : Int) : Option Int := (f w).bind (addM own)
/-- One by one. -/
def upFrom (own most : Int) (f : Int → Option Int) : Nat → Int → Option Int
  | 0, _ => none
  | k + 1, w => (stepM own f w).bind (fun s => if s ≤ w then some w else upFrom own most f k (w + 1))
def leastR (own most : Int) (f : Int → Option Int) : Option Int := if own < 0 then none else upFrom own most f (most + 1 - max own 1).toNat (max own 1)
/-- By steps. -/
def itFrom (own most : Int) (f : Int → Option Int) : Nat → Int → Option Int
  | 0, _ => none
  | k + 1, w => if w ≤ most then (stepM own f w).bind (fun s => if s ≤ w then some w else itFrom own most f k s) else none
def leastM (own most : Int) (f : Int → Option Int) : Option Int := if own < 0 then none else itFrom own most f (most + 1 - max own 1).toNat (max own 1)

theorem upFrom_step (own most : Int) (f : Int → Option Int) (w : Int) (h : w ≤ most) :
    upFrom own most f (most + 1 - w).toNat w = (stepM own f w).bind (fun s => if s ≤ w then some w else upFrom own most f (most + 1 - (w + 1)).toNat (w + 1)) := by
  rw [show (most + 1 - w).toNat = (most + 1 - (w + 1)).toNat + 1 by omega, upFrom]
theorem upFrom_end (own most : Int) (f : Int → Option Int) (w : Int) (h : most < w) : upFrom own most f (most + 1 - w).toNat w = none := by
  rw [show (most + 1 - w).toNat = 0 by omega, upFrom]
/-- More fuel does no harm. -/
theorem itFrom_fuel (own most : Int) (f : Int → Option Int) : ∀ (k j : Nat) (w : Int), most + 1 - w ≤ k → most + 1 - w ≤ j → itFrom own most f k w = itFrom own most f j w
  | 0, 0, _, _, _ => rfl
  | 0, j + 1, w, h1, _ => by rw [itFrom, itFrom, if_neg (by omega)]
  | k + 1, 0, w, _, h2 => by rw [itFrom, itFrom, if_neg (by omega)]
  | k + 1, j + 1, w, h1, h2 => by
    rw [itFrom, itFrom]
    split
    · congr 1
      funext s
      split
      · rfl
      · exact itFrom_fuel own most f k j s (by omega) (by omega)
    · rfl
theorem itFrom_step (own most : Int) (f : Int → Option Int) (w : Int) (h : w ≤ most) :
    itFrom own most f (most + 1 - w).toNat w = (stepM own f w).bind (fun s => if s ≤ w then some w else itFrom own most f (most + 1 - s).toNat s) := by
  rw [show (most + 1 - w).toNat = (most - w).toNat + 1 by omega, itFrom, if_pos h]
  congr 1
  funext s
  split
  · rfl
  · exact itFrom_fuel own most f _ _ s (by omega) (by omega)
theorem itFrom_end (own most : Int) (f : Int → Option Int) (w : Int) (h : most < w) : itFrom own most f (most + 1 - w).toNat w = none := by
  rw [show (most + 1 - w).toNat = 0 by omega, itFrom]

/-- The answer one by one: the least one that is enough, where each look answers. -/
theorem upFrom_spec (own most : Int) (f : Int → Option Int) : ∀ (k : Nat) (w : Int), most + 1 - w ≤ k → (∀ v, w ≤ v → v ≤ most → ∃ s, stepM own f v = some s) →
    (∃ n, upFrom own most f (most + 1 - w).toNat w = some n ∧ w ≤ n ∧ n ≤ most ∧ (∃ s, stepM own f n = some s ∧ s ≤ n) ∧ ∀ v, w ≤ v → v < n → ∃ s, stepM own f v = some s ∧ v < s) ∨
    (upFrom own most f (most + 1 - w).toNat w = none ∧ ∀ v, w ≤ v → v ≤ most → ∃ s, stepM own f v = some s ∧ v < s)
  | 0, w, hk, _ => .inr ⟨upFrom_end _ _ _ _ (by omega), fun v h1 h2 => by omega⟩
  | k + 1, w, hk, ha => by
    rcases Int.lt_or_le most w with hw | hw
    · exact .inr ⟨upFrom_end _ _ _ _ hw, fun v h1 h2 => by omega⟩
    · rw [upFrom_step _ _ _ _ hw]
      obtain ⟨s, hs⟩ := ha w (Int.le_refl _) hw
      rw [hs]
      show (∃ n, (if s ≤ w then some w else _) = some n ∧ _) ∨ ((if s ≤ w then some w else _) = none ∧ _)
      by_cases hsw : s ≤ w
      · rw [if_pos hsw]
        exact .inl ⟨w, rfl, Int.le_refl _, hw, ⟨s, hs, hsw⟩, fun v h1 h2 => by omega⟩
      · rw [if_neg hsw]
        have hall : ∀ (P : Int → Prop), (∀ v, w + 1 ≤ v → P v → ∃ s, stepM own f v = some s ∧ v < s) → ∀ v, w ≤ v → P v → ∃ s, stepM own f v = some s ∧ v < s := fun P h v h1 h2 => by
          rcases Int.lt_or_le w v with h3 | h3
          · exact h v (by omega) h2
          · obtain rfl : v = w := by omega
            exact ⟨s, hs, by omega⟩
        rcases upFrom_spec own most f k (w + 1) (by omega) (fun v h1 h2 => ha v (by omega) h2) with ⟨n, h1, h2, h3, h4, h5⟩ | ⟨h1, h2⟩
        · exact .inl ⟨n, h1, by omega, h3, h4, hall (fun v => v < n) h5⟩
        · exact .inr ⟨h1, hall (fun v => v ≤ most) h2⟩
/-- By steps the same is found: where each look answers, and more time brings no less. -/
theorem itFrom_up (own most : Int) (f : Int → Option Int) : ∀ (k : Nat) (w : Int), most + 1 - w ≤ k → (∀ v, w ≤ v → v ≤ most → ∃ s, stepM own f v = some s) →
    (∀ u v s t, w ≤ u → u ≤ v → v ≤ most → stepM own f u = some s → stepM own f v = some t → s ≤ t) → itFrom own most f (most + 1 - w).toNat w = upFrom own most f (most + 1 - w).toNat w
  | 0, w, hk, _, _ => by rw [itFrom_end _ _ _ _ (by omega), upFrom_end _ _ _ _ (by omega)]
  | k + 1, w, hk, ha, hm => by
    rcases Int.lt_or_le most w with hw | hw
    · rw [itFrom_end _ _ _ _ hw, upFrom_end _ _ _ _ hw]
    · obtain ⟨s, hs⟩ := ha w (Int.le_refl _) hw
      rw [itFrom_step _ _ _ _ hw, hs]
      show (if s ≤ w then some w else _) = _
      by_cases hsw : s ≤ w
      · rw [upFrom_step _ _ _ _ hw, hs]
        show _ = (if s ≤ w then some w else _)
        rw [if_pos hsw, if_pos hsw]
      · rw [if_neg hsw, itFrom_up own most f k s (by omega) (fun v h1 h2 => ha v (by omega) h2) (fun u v p q h1 h2 h3 => hm u v p q (by omega) h2 h3)]
        -- all from w up to s - 1 are not enough
        have key : ∀ (j : Nat) (v : Int), w ≤ v → v + j = s → upFrom own most f (most + 1 - v).toNat v = upFrom own most f (most + 1 - s).toNat s := by
          intro j
          induction j with
          | zero => intro v _ h2; obtain rfl : v = s := by omega
                    rfl
          | succ j ih =>
            intro v h1 h2
            rcases Int.lt_or_le most v with h3 | h3
            · rw [upFrom_end _ _ _ _ h3, upFrom_end _ _ _ _ (by omega)]
            · obtain ⟨t, ht⟩ := ha v h1 h3
              have := hm w v s t (Int.le_refl _) h1 h3 hs ht
              rw [upFrom_step _ _ _ _ h3, ht]
              show (if t ≤ v then some v else _) = _
              rw [if_neg (by omega), ih (v + 1) (by omega) (by omega)]
        exact (key (s - w).toNat w (Int.le_refl _) (by omega)).symm
theorem least_same (own most : Int) (f : Int → Option Int) (ha : ∀ v, max own 1 ≤ v → v ≤ most → ∃ s, stepM own f v = some s)
    (hm : ∀ u v s t, max own 1 ≤ u → u ≤ v → v ≤ most → stepM own f u = some s → stepM own f v = some t → s ≤ t) : leastM own most f = leastR own most f := by
  unfold leastM leastR
  split
  · rfl
  · exact itFrom_up own most f _ _ (Int.self_le_toNat _) ha hm
end Go.Proofs.YtnnnjcgddmhdmaaGreatDoor

namespace Go.Proofs.YtnnnjcgddmhdmaaGreatDoor
open Go.RowKit

set_option maxRecDepth 100000 in
set_option maxHeartbeats 2000000 in
theorem rleast_any (A : Option Addr) (c : Nat) (l : List Trm) (own most : Int) (w : World) (h : Reads w 4 A l.length (l.flatMap trmCells)) (hlen : l.length ≤ 64) (hmost : most ≤ 1099511627776) :
    Calls Tryz.prog 54 #[.int .i64 own, .int .i64 most, .slice A l.length c] w fun e w' => e = .returned (numRes (leastR own most (allM l))) ∧ Keep [] w w' := by
  have HAll := fun n W hk => Lib.hid (rall_any A c l n W (h.keep0 hk) hlen)
  have HM := Lib.hid hmost
  clear h hlen hmost
  by_cases ho : own < 0
  · have HX : Hid (numRes (leastR own most (allM l)) = .tuple #[.int .i64 0, .bool false]) := by show _ = _; unfold leastR; rw [if_pos ho]; rfl
    go_enter Tryz.func54, Tryz.ntmps54
    go_wp2
    go_ret2
    exact ⟨by rw [HX.out]; rfl, Keep.refl _ _⟩
  have ho2 : 0 ≤ own := by omega
  have HX : Hid (leastR own most (allM l) = upFrom own most (allM l) (most + 1 - max own 1).toNat (max own 1)) := by show _ = _; unfold leastR; rw [if_neg ho]
  clear ho
  generalize allM l = f at *
  have HS : Hid (∀ w1, stepM own f w1 = (f w1).bind (addM own)) := fun _ => rfl
  rcases Int.lt_or_le own 1 with h1 | h1
  case' inl =>
    rw [show max own 1 = 1 by omega] at HX
  case' inr =>
    rw [show max own 1 = own by omega] at HX
  all_goals
    go_enter Tryz.func54, Tryz.ntmps54
    go_wp2
    go_loopw [8] (fun i wr => ∃ v : Int, i = .int .i64 v ∧ 1 ≤ v ∧ leastR own most f = upFrom own most f (most + 1 - v).toNat v ∧ Keep [] w wr) (fun i _ => (most + 1 - intOf i).toNat)
    case atStart => exact ⟨_, rfl, by omega, HX.out, Keep.refl _ _⟩
    case round =>
      obtain ⟨v, rfl, hv, hs, hK⟩ := hrel
      have HK := Lib.hid hK
      have hm := HM.out
      clear hK
      by_cases hlt : v ≤ most
      · rw [upFrom_step _ _ _ _ hlt, HS.out] at hs
        have HA := Lib.hid (HAll v wr HK.out)
        cases hf : f v with
        | none =>
          rw [hf] at HA hs
          have HY : Hid (numRes (leastR own most f) = .tuple #[.int .i64 0, .bool false]) := by show _ = _; rw [hs]; rfl
          clear hs
          go_wp2_with (refine HA.out.out.mono ?_; rintro e w5 ⟨rfl, k5⟩; rw [numRes_none])
          have K5 := Lib.hid (HK.out.then k5)
          go_ret2
          exact ⟨by rw [HY.out]; rfl, K5.out⟩
        | some n =>
          rw [hf] at HA hs
          cases hn : addM own n with
          | none =>
            have HY : Hid (numRes (leastR own most f) = .tuple #[.int .i64 0, .bool false]) := by show _ = _; rw [hs]; show numRes ((addM own n).bind _) = _; rw [hn]; rfl
            have HD := fun w => Lib.hid (r2add_any own n w)
            clear hs
            go_wp2_with (first
              | (refine HA.out.out.mono ?_; rintro e w5 ⟨rfl, k5⟩; rw [numRes_some])
              | (refine (HD _).out.mono ?_; rintro e w6 ⟨rfl, rfl⟩; rw [hn, numRes_none]))
            have K5 := Lib.hid (HK.out.then k5)
            go_ret2
            exact ⟨by rw [HY.out]; rfl, K5.out⟩
          | some s =>
            have HY : Hid (leastR own most f = if s ≤ v then some v else upFrom own most f (most + 1 - (v + 1)).toNat (v + 1)) := by show _ = _; rw [hs]; show (addM own n).bind _ = _; rw [hn]; rfl
            have HD := fun w => Lib.hid (r2add_any own n w)
            clear hs
            by_cases hsv : s ≤ v
            · have HZ : Hid (numRes (leastR own most f) = .tuple #[.int .i64 v, .bool true]) := by show _ = _; rw [HY.out, if_pos hsv]; rfl
              go_wp2_with (first
                | (refine HA.out.out.mono ?_; rintro e w5 ⟨rfl, k5⟩; rw [numRes_some])
                | (refine (HD _).out.mono ?_; rintro e w6 ⟨rfl, rfl⟩; rw [hn, numRes_some]))
              have K5 := Lib.hid (HK.out.then k5)
              go_ret2
              exact ⟨by rw [HZ.out]; rfl, K5.out⟩
            · have HZ : Hid (leastR own most f = upFrom own most f (most + 1 - (v + 1)).toNat (v + 1)) := by show _ = _; rw [HY.out, if_neg hsv]
              go_wp2_with (first
                | (refine HA.out.out.mono ?_; rintro e w5 ⟨rfl, k5⟩; rw [numRes_some])
                | (refine (HD _).out.mono ?_; rintro e w6 ⟨rfl, rfl⟩; rw [hn, numRes_some]))
              have K5 := Lib.hid (HK.out.then k5)
              go_roundw
              case rel => exact ⟨v + 1, by go_num, by omega, HZ.out, K5.out⟩
              case measure => simp [intOf] <;> omega
      · have HY : Hid (numRes (leastR own most f) = .tuple #[.int .i64 0, .bool false]) := by show _ = _; rw [hs, upFrom_end _ _ _ _ (by omega)]; rfl
        clear hs
        go_wp2
        go_ret2
        exact ⟨by rw [HY.out]; rfl, HK.out⟩
end Go.Proofs.YtnnnjcgddmhdmaaGreatDoor
