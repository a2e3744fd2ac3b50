/- The plain law of steady: what the program reckons is what the document says. No program in sight. The plain law of steady: ceilings, blocking and terms are the document's. No program in sight. The plain law of steady: blocking, terms and responses are the document's; more tasks, longer tasks: no less. No program in sight. The law's helper modes: what is told of a mode is what is told of its tasks. Condition: the table of math/bits lies where the program's text lays it; small numbers. -/
import Derived.Test.YteflgdnekflbbaaDoorRef18P
namespace Go.Proofs.YteflgdnekflbbaaDoor

/-- A term of small numbers. -/
structure GoodT (t : Trm) : Prop where
  per : 1 ≤ t.per ∧ t.per ≤ 4096
  cost : 1 ≤ t.cost ∧ t.cost ≤ 4096
  off : t.off = 0
  car : 0 ≤ t.car ∧ t.car ≤ 4096
def workV (t : Trm) (n : Int) : Int := (if n = 0 then 0 else (n - 1) / t.per + 1) * t.cost + t.car
def allV (ts : List Trm) (n : Int) : Int := (ts.map (fun t => workV t n)).sum
theorem jobsV_le {per n : Int} (hp : 1 ≤ per) (h0 : 0 ≤ n) : 0 ≤ (if n = 0 then 0 else (n - 1) / per + 1) ∧ (if n = 0 then 0 else (n - 1) / per + 1) ≤ n := by
  by_cases h : n = 0
  · rw [if_pos h]; omega
  · rw [if_neg h]
    have h1 : 0 ≤ (n - 1) / per := Int.ediv_nonneg (by omega) (by omega)
    have h2 := Int.ediv_le_self per (show 0 ≤ n - 1 by omega)
    omega
theorem jobsV_mono {per a b : Int} (hp : 1 ≤ per) (h0 : 0 ≤ a) (h : a ≤ b) : (if a = 0 then 0 else (a - 1) / per + 1) ≤ (if b = 0 then 0 else (b - 1) / per + 1) := by
  by_cases ha : a = 0
  · rw [if_pos ha]; exact (jobsV_le hp (by omega)).1
  · rw [if_neg ha, if_neg (by omega)]
    have := Int.ediv_le_ediv (show 0 < per by omega) (show a - 1 ≤ b - 1 by omega)
    omega
theorem workV_le {t : Trm} (h : GoodT t) {n : Int} (h0 : 0 ≤ n) (h1 : n ≤ 65536) : 0 ≤ workV t n ∧ workV t n ≤ 300000000 := by
  have hj := jobsV_le h.per.1 h0
  unfold workV
  generalize (if n = 0 then 0 else (n - 1) / t.per + 1) = j at *
  have hc := h.cost
  have hr := h.car
  have h2 : 0 ≤ j * t.cost := Int.mul_nonneg hj.1 (by omega)
  have h3 : j * t.cost ≤ 65536 * 4096 := Int.mul_le_mul (by omega) hc.2 (by omega) (by decide)
  omega
theorem workM_eq {t : Trm} (h : GoodT t) {n : Int} (h0 : 0 ≤ n) (h1 : n ≤ 65536) : workM t n = some (workV t n) := by
  have hj := jobsV_le h.per.1 h0
  have hw := workV_le h h0 h1
  have hc := h.cost
  have hr := h.car
  have hp := h.per
  unfold workM jobsM
  have e1 : lessM n t.off = some n := by
    unfold lessM
    rw [h.off, inM_iff.2 ⟨h0, by omega⟩, inM_iff.2 (by omega : (0 : Int) ≤ 0 ∧ (0 : Int) ≤ 1099511627776)]
    simp; omega
  have e2 : upM n t.per = some (if n = 0 then 0 else (n - 1) / t.per + 1) := by
    unfold upM
    rw [inM_iff.2 ⟨h0, by omega⟩, inM_iff.2 (by omega), if_pos (by simp; omega)]
  unfold workV at *
  rw [e1]
  show ((upM n t.per).bind _) = _
  rw [e2]
  show ((mulM _ t.cost).bind _) = _
  generalize (if n = 0 then 0 else (n - 1) / t.per + 1) = j at *
  have h2 : 0 ≤ j * t.cost := Int.mul_nonneg hj.1 (by omega)
  have e3 : mulM j t.cost = some (j * t.cost) := by
    unfold mulM
    rw [inM_iff.2 (by omega), inM_iff.2 (by omega), if_pos (by simp; omega)]
  rw [e3]
  show addM _ t.car = _
  unfold addM
  rw [inM_iff.2 (by omega), inM_iff.2 (by omega), if_pos (by simp; omega)]
theorem allV_cons (t : Trm) (ts : List Trm) (n : Int) : allV (t :: ts) n = workV t n + allV ts n := by simp [allV]
theorem allV_append (a1 b1 : List Trm) (n : Int) : allV (a1 ++ b1) n = allV a1 n + allV b1 n := by simp [allV]
theorem allV_le : ∀ {ts : List Trm} (_ : ∀ t ∈ ts, GoodT t) {n : Int}, 0 ≤ n → n ≤ 65536 → 0 ≤ allV ts n ∧ allV ts n ≤ 300000000 * ts.length
  | [], _, n, _, _ => by simp [allV]
  | t :: ts, h, n, h0, h1 => by
    have a := workV_le (h t (by simp)) h0 h1
    have b := allV_le (fun u hu => h u (by simp [hu])) h0 h1 (ts := ts)
    rw [allV_cons, List.length_cons]
    push_cast
    omega
theorem worksM_eq : ∀ {ts : List Trm} (_ : ∀ t ∈ ts, GoodT t) {n : Int}, 0 ≤ n → n ≤ 65536 → worksM n ts = some (ts.map (fun t => workV t n))
  | [], _, n, _, _ => rfl
  | t :: ts, h, n, h0, h1 => by
    rw [worksM, workM_eq (h t (by simp)) h0 h1, worksM_eq (fun u hu => h u (by simp [hu])) h0 h1]
    rfl
theorem sum_nonneg : ∀ (l : List Int), (∀ z ∈ l, 0 ≤ z) → 0 ≤ l.sum
  | [], _ => by simp
  | a :: l, h => by
    have h1 := h a (by simp)
    have h2 := sum_nonneg l (fun z hz => h z (by simp [hz]))
    rw [List.sum_cons]; omega
theorem sumFrom_eq : ∀ (l : List Int) (m : Int), 0 ≤ m → (∀ z ∈ l, 0 ≤ z) → m + l.sum ≤ 1099511627776 → sumFrom m l = some (m + l.sum)
  | [], m, _, _, _ => by simp [sumFrom]
  | a :: l, m, h0, hl, hs => by
    have ha := hl a (by simp)
    have hp : 0 ≤ l.sum := sum_nonneg l (fun z hz => hl z (by simp [hz]))
    rw [List.sum_cons] at hs ⊢
    rw [sumFrom]
    have e : addM m a = some (m + a) := by
      unfold addM
      rw [inM_iff.2 (by omega), inM_iff.2 (by omega), if_pos (by simp; omega)]
    rw [e]
    show sumFrom (m + a) l = _
    rw [sumFrom_eq l (m + a) (by omega) (fun z hz => hl z (by simp [hz])) (by omega)]
    congr 1
    omega
theorem allM_eq {ts : List Trm} (h : ∀ t ∈ ts, GoodT t) (hl : ts.length ≤ 64) {n : Int} (h0 : 0 ≤ n) (h1 : n ≤ 65536) : allM ts n = some (allV ts n) := by
  have hb := allV_le h h0 h1
  unfold allM
  rw [worksM_eq h h0 h1]
  show sumFrom 0 _ = _
  rw [sumFrom_eq _ 0 (by omega) ?_ ?_]
  · simp [allV]
  · intro z hz
    obtain ⟨t, ht, rfl⟩ := List.mem_map.1 hz
    exact (workV_le (h t ht) h0 h1).1
  · unfold allV at hb; omega
theorem workV_mono {t : Trm} (h : GoodT t) {a b : Int} (h0 : 0 ≤ a) (hab : a ≤ b) : workV t a ≤ workV t b := by
  have := jobsV_mono h.per.1 h0 hab
  unfold workV
  have := Int.mul_le_mul_of_nonneg_right this (show 0 ≤ t.cost by have := h.cost; omega)
  omega
theorem allV_mono : ∀ {ts : List Trm} (_ : ∀ t ∈ ts, GoodT t) {a b : Int}, 0 ≤ a → a ≤ b → allV ts a ≤ allV ts b
  | [], _, _, _, _, _ => by simp [allV]
  | t :: ts, h, a, b, h0, hab => by
    rw [allV_cons, allV_cons]
    have := workV_mono (h t (by simp)) h0 hab
    have := allV_mono (fun u hu => h u (by simp [hu])) h0 hab (ts := ts)
    omega
theorem stepV {ts : List Trm} (h : ∀ t ∈ ts, GoodT t) (hl : ts.length ≤ 64) {own n : Int} (ho : 0 ≤ own) (ho2 : own ≤ 1000000000) (h0 : 0 ≤ n) (h1 : n ≤ 65536) : stepM own (allM ts) n = some (own + allV ts n) := by
  have hb := allV_le h h0 h1
  unfold stepM
  rw [allM_eq h hl h0 h1]
  show addM own _ = _
  unfold addM
  rw [inM_iff.2 (by omega), inM_iff.2 (by omega), if_pos (by simp; omega)]
/-- By steps, or one by one: the same. -/
theorem least_steps {ts : List Trm} (h : ∀ t ∈ ts, GoodT t) (hl : ts.length ≤ 64) {own most : Int} (ho : 0 ≤ own) (ho2 : own ≤ 1000000000) (hm : most ≤ 65536) : leastM own most (allM ts) = leastR own most (allM ts) := by
  refine least_same own most _ (fun v h1 h2 => ⟨_, stepV h hl ho ho2 (by omega) (by omega)⟩) (fun u v s t h1 h2 h3 hs ht => ?_)
  rw [stepV h hl ho ho2 (by omega) (by omega)] at hs ht
  injection hs with hs
  injection ht with ht
  have := allV_mono h (show 0 ≤ u by omega) h2
  omega
/-- What the least time is. -/
theorem leastR_some {ts : List Trm} (h : ∀ t ∈ ts, GoodT t) (hl : ts.length ≤ 64) {own most : Int} (ho : 0 ≤ own) (ho2 : own ≤ 1000000000) (hm : most ≤ 65536) {n : Int} (hn : leastR own most (allM ts) = some n) :
    max own 1 ≤ n ∧ n ≤ most ∧ own + allV ts n ≤ n ∧ ∀ v, max own 1 ≤ v → v < n → v < own + allV ts v := by
  unfold leastR at hn
  rw [if_neg (by omega)] at hn
  rcases upFrom_spec own most (allM ts) (most + 1 - max own 1).toNat (max own 1) (Int.self_le_toNat _) (fun v h1 h2 => ⟨_, stepV h hl ho ho2 (by omega) (by omega)⟩) with ⟨m, h1, h2, h3, ⟨s, h4, h5⟩, h6⟩ | ⟨h1, _⟩
  · rw [h1] at hn
    injection hn with hn
    subst hn
    rw [stepV h hl ho ho2 (by omega) (by omega)] at h4
    injection h4 with h4
    refine ⟨h2, h3, by omega, fun v hv1 hv2 => ?_⟩
    obtain ⟨s', e, h7⟩ := h6 v hv1 hv2
    rw [stepV h hl ho ho2 (by omega) (by omega)] at e
    injection e with e
    omega
  · rw [h1] at hn; cases hn
theorem leastR_none {ts : List Trm} (h : ∀ t ∈ ts, GoodT t) (hl : ts.length ≤ 64) {own most : Int} (ho : 0 ≤ own) (ho2 : own ≤ 1000000000) (hm : most ≤ 65536) (hn : leastR own most (allM ts) = none) :
    ∀ v, max own 1 ≤ v → v ≤ most → v < own + allV ts v := by
  unfold leastR at hn
  rw [if_neg (by omega)] at hn
  rcases upFrom_spec own most (allM ts) (most + 1 - max own 1).toNat (max own 1) (Int.self_le_toNat _) (fun v h1 h2 => ⟨_, stepV h hl ho ho2 (by omega) (by omega)⟩) with ⟨m, h1, _⟩ | ⟨_, h2⟩
  · rw [h1] at hn; cases hn
  · intro v hv1 hv2
    obtain ⟨s', e, h7⟩ := h2 v hv1 hv2
    rw [stepV h hl ho ho2 (by omega) (by omega)] at e
    injection e with e
    omega
/-- More work at first, more that comes: no less time. -/
theorem leastR_grows {ts us : List Trm} (h : ∀ t ∈ ts, GoodT t) (hu : ∀ t ∈ us, GoodT t) (hl : ts.length ≤ 64) (hl' : us.length ≤ 64) {a b most : Int} (ha : 0 ≤ a) (hab : a ≤ b) (hb : b ≤ 1000000000) (hm : most ≤ 65536)
    (hv : ∀ v, 0 ≤ v → v ≤ 65536 → allV ts v ≤ allV us v) {n : Int} (hn : leastR b most (allM us) = some n) : ∃ m, leastR a most (allM ts) = some m ∧ m ≤ n := by
  obtain ⟨h1, h2, h3, _⟩ := leastR_some hu hl' (by omega) hb hm hn
  have hvn := hv n (by omega) (by omega)
  cases hm2 : leastR a most (allM ts) with
  | none =>
    have := leastR_none h hl ha (by omega) hm hm2 n (by omega) h2
    omega
  | some m =>
    obtain ⟨g1, g2, g3, g4⟩ := leastR_some h hl ha (by omega) hm hm2
    refine ⟨m, rfl, ?_⟩
    rcases Int.lt_or_le n m with hlt | hle
    · have := g4 n (by omega) hlt
      omega
    · exact hle
end Go.Proofs.YteflgdnekflbbaaDoor

namespace Go.Proofs.YteflgdnekflbbaaDoor

/-- Task i uses resource r. -/
def usesR (l : List Tsk) (i r : Nat) : Bool := match l[i]? with | some t => decide (0 < t.lon.getD r 0) | none => false
theorem use_get (i : Nat) : ∀ (ps : List PII) (t : List Int) (r : Nat), r < t.length → (∀ p ∈ ps, ∃ q : Nat, p.1 = (q : Int) ∧ q < t.length) →
    (ps.foldl (useStep i) t).getD r 0 = if (ps.any (fun p => p.1 == (r : Int))) = true then min (t.getD r 0) (i : Int) else t.getD r 0
  | [], t, r, _, _ => by simp
  | p :: ps, t, r, hr, h => by
    obtain ⟨q, hq, hql⟩ := h p (by simp)
    rw [List.foldl_cons, use_get i ps (useStep i t p) r (by rw [useStep_len]; exact hr) (fun p' hp' => by obtain ⟨q', h1, h2⟩ := h p' (by simp [hp']); exact ⟨q', h1, by rw [useStep_len]; exact h2⟩)]
    have hs : (useStep i t p).getD r 0 = if q = r then min (t.getD r 0) (i : Int) else t.getD r 0 := by
      unfold useStep
      rw [hq, Int.toNat_natCast, List.getD_eq_getElem?_getD, List.getElem?_set]
      by_cases e : q = r
      · subst e; simp [hql]
      · rw [if_neg e, if_neg e, List.getD_eq_getElem?_getD]
    rw [hs, List.any_cons, hq]
    by_cases e : q = r
    · subst e
      simp only [beq_self_eq_true, Bool.true_or, if_true]
      split <;> omega
    · have : ((q : Int) == (r : Int)) = false := by simp; omega
      rw [this, Bool.false_or, if_neg e]
theorem usesK_any (lon : List Int) (r : Nat) : ∀ k, (usesK lon k).any (fun p => p.1 == (r : Int)) = (decide (r < k) && decide (0 < lon.getD r 0))
  | 0 => by simp [usesK]
  | k + 1 => by
    rw [usesK, List.any_append, usesK_any lon r k]
    by_cases e : r = k
    · subst e
      split
      · rename_i h
        simp only [List.any_cons, List.any_nil, beq_self_eq_true, Bool.true_or, Bool.or_true]
        rw [decide_eq_true h, decide_eq_true (show r < r + 1 by omega)]; rfl
      · rename_i h
        rw [decide_eq_false h]; simp
    · have h1 : decide (r < k + 1) = decide (r < k) := by rw [Bool.eq_iff_iff]; simp; omega
      rw [h1]
      split
      · have : ((k : Int) == (r : Int)) = false := by simp; omega
        simp [this]
      · simp
theorem taskStep_get (l : List Tsk) (t : List Int) (i r : Nat) (ht : t.length = 8) (hr : r < 8) : (taskStep l t i).getD r 0 = if usesR l i r = true then min (t.getD r 0) (i : Int) else t.getD r 0 := by
  unfold taskStep usesR
  cases l[i]? with
  | none => simp
  | some k =>
    show ((usesK k.lon 8).foldl (useStep i) t).getD r 0 = _
    rw [use_get i _ t r (by omega) (fun p hp => by obtain ⟨q, h1, h2⟩ := usesK_mem hp; exact ⟨q, h1, by omega⟩), usesK_any, decide_eq_true hr, Bool.true_and]
theorem ceil_from (l : List Tsk) (r : Nat) (hr : r < 8) : ∀ (is : List Nat) (t : List Int), t.length = 8 → (is.foldl (taskStep l) t).getD r 0 = (is.filter (fun i => usesR l i r)).foldl (fun (m : Int) (i : Nat) => min m (i : Int)) (t.getD r 0)
  | [], t, _ => rfl
  | i :: is, t, ht => by
    rw [List.foldl_cons, ceil_from l r hr is _ (by rw [taskStep_len]; exact ht), taskStep_get l t i r ht hr, List.filter_cons]
    split <;> rfl
theorem minFold_sorted : ∀ (is : List Nat) (m : Int), is.Pairwise (· < ·) → (∀ i ∈ is, (i : Int) ≤ m) → is.foldl (fun (m : Int) (i : Nat) => min m (i : Int)) m = match is with | [] => m | i :: _ => (i : Int)
  | [], _, _, _ => rfl
  | i :: is, m, hs, h => by
    rw [List.foldl_cons]
    have h1 := h i (by simp)
    rw [show min m (i : Int) = (i : Int) by omega]
    have hp := List.pairwise_cons.1 hs
    show _ = (i : Int)
    clear h h1 hs m
    induction is with
    | nil => rfl
    | cons j is ih =>
      rw [List.foldl_cons]
      have := hp.1 j (by simp)
      rw [show min (i : Int) (j : Int) = (i : Int) by omega]
      exact ih ⟨fun a ha => hp.1 a (by simp [ha]), (List.pairwise_cons.1 hp.2).2⟩
theorem usesR_lt {l : List Tsk} {i r : Nat} (h : usesR l i r = true) : i < l.length := by
  unfold usesR at h
  rcases Nat.lt_or_ge i l.length with h1 | h1
  · exact h1
  · rw [List.getElem?_eq_none h1] at h; cases h
/-- The ceiling of a resource: the least task that uses it. -/
theorem ceilOf_get (l : List Tsk) (s r : Nat) (hr : r < 8) (hn : l.length ≤ 16) : (ceilOf l s).getD r 0 = match (bitsL s).filter (fun i => usesR l i r) with | [] => 16 | i :: _ => (i : Int) := by
  unfold ceilOf ceilIn
  rw [ceil_from l r hr _ _ rfl, minFold_sorted]
  · have : emptyTab.getD r 0 = 16 := by
      have hc : r = 0 ∨ r = 1 ∨ r = 2 ∨ r = 3 ∨ r = 4 ∨ r = 5 ∨ r = 6 ∨ r = 7 := by omega
      rcases hc with rfl | rfl | rfl | rfl | rfl | rfl | rfl | rfl <;> rfl
    rw [this]
  · exact List.Pairwise.filter _ (bitsL_sorted s)
  · intro i hi
    have := usesR_lt (List.mem_filter.1 hi).2
    have e : emptyTab.getD r 0 = 16 := by
      have hc : r = 0 ∨ r = 1 ∨ r = 2 ∨ r = 3 ∨ r = 4 ∨ r = 5 ∨ r = 6 ∨ r = 7 := by omega
      rcases hc with rfl | rfl | rfl | rfl | rfl | rfl | rfl | rfl <;> rfl
    rw [e]; omega
theorem has10_nat {s i : Nat} (hi : i < 32) : has10 s (i : Int) = s.testBit i := by unfold has10; rw [Int.toNat_natCast]; simp; omega
/-- The document's ceiling: at, or ahead of, a number just if a task up to it uses the resource. -/
theorem rceil_le (l : List Tsk) (s r : Nat) (hn : l.length ≤ 16) (task : Int) : ∀ (j k : Nat), l.length ≤ k + j → (ceilFrom l s r k (l.drop k) ≤ task ↔ (∃ i : Nat, k ≤ i ∧ (i : Int) ≤ task ∧ s.testBit i = true ∧ usesR l i r = true) ∨ 16 ≤ task)
  | 0, k, h => by
    rw [List.drop_eq_nil_of_le (by omega)]
    show (16 : Int) ≤ task ↔ _
    constructor
    · intro h; exact .inr h
    · rintro (⟨i, h1, _, _, h4⟩ | h)
      · have := usesR_lt h4; omega
      · exact h
  | j + 1, k, h => by
    rcases Nat.lt_or_ge k l.length with hk | hk
    · rw [ceilFrom_step l s r k hk, has10_nat (by omega)]
      have hu : usesR l k r = decide (0 < l[k].lon.getD r 0) := by unfold usesR; rw [List.getElem?_eq_getElem hk]
      rw [← hu]
      by_cases hb : (s.testBit k && usesR l k r) = true
      · rw [if_pos hb]
        have hb2 := Bool.and_eq_true_iff.1 hb
        constructor
        · intro h1; exact .inl ⟨k, Nat.le_refl _, h1, hb2.1, hb2.2⟩
        · rintro (⟨i, h1, h2, _, _⟩ | h1) <;> omega
      · rw [if_neg hb, rceil_le l s r hn task j (k + 1) (by omega)]
        constructor
        · rintro (⟨i, h1, h2, h3, h4⟩ | h1)
          · exact .inl ⟨i, by omega, h2, h3, h4⟩
          · exact .inr h1
        · rintro (⟨i, h1, h2, h3, h4⟩ | h1)
          · by_cases e : i = k
            · subst e; rw [h3, h4] at hb; exact absurd rfl hb
            · exact .inl ⟨i, by omega, h2, h3, h4⟩
          · exact .inr h1
    · rw [List.drop_eq_nil_of_le hk]
      show (16 : Int) ≤ task ↔ _
      constructor
      · intro h; exact .inr h
      · rintro (⟨i, h1, _, _, h4⟩ | h)
        · have := usesR_lt h4; omega
        · exact h
theorem ceil_le (l : List Tsk) (s r : Nat) (hr : r < 8) (hn : l.length ≤ 16) (task : Int) : (ceilOf l s).getD r 0 ≤ task ↔ (∃ i : Nat, (i : Int) ≤ task ∧ s.testBit i = true ∧ usesR l i r = true) ∨ 16 ≤ task := by
  rw [ceilOf_get l s r hr hn]
  have hm : ∀ i, i ∈ (bitsL s).filter (fun i => usesR l i r) ↔ i < 32 ∧ s.testBit i = true ∧ usesR l i r = true := fun i => by
    rw [List.mem_filter, bitsL_mem]
    constructor
    · rintro ⟨⟨h1, h2⟩, h3⟩; exact ⟨h1, h2, h3⟩
    · rintro ⟨h1, h2, h3⟩; exact ⟨⟨h1, h2⟩, h3⟩
  have hs : ((bitsL s).filter (fun i => usesR l i r)).Pairwise (· < ·) := List.Pairwise.filter _ (bitsL_sorted s)
  generalize (bitsL s).filter (fun i => usesR l i r) = fl at *
  cases fl with
  | nil =>
    show (16 : Int) ≤ task ↔ _
    constructor
    · intro h; exact .inr h
    · rintro (⟨i, h1, h2, h3⟩ | h)
      · have := usesR_lt h3
        have := (hm i).2 ⟨by omega, h2, h3⟩
        simp at this
      · exact h
  | cons j fl =>
    show (j : Int) ≤ task ↔ _
    have hj := (hm j).1 (by simp)
    constructor
    · intro h; exact .inl ⟨j, h, hj.2.1, hj.2.2⟩
    · rintro (⟨i, h1, h2, h3⟩ | h)
      · have := usesR_lt h3
        have hi := (hm i).2 ⟨by omega, h2, h3⟩
        rcases List.mem_cons.1 hi with rfl | hi
        · exact h1
        · have := (List.pairwise_cons.1 hs).1 i hi; omega
      · have := usesR_lt hj.2.2; omega
/-- The same resources let behind ones go ahead. -/
theorem over_bit (l : List Tsk) (s r : Nat) (hr : r < 8) (hn : l.length ≤ 16) (task : Nat) (ht : task < 16) : (overK (ceilOf l s) (task : Int) 8).testBit r = decide (rceil l s r ≤ (task : Int)) := by
  rw [overK_bit, decide_eq_true hr, Bool.true_and]
  have h1 := ceil_le l s r hr hn (task : Int)
  have h2 := rceil_le l s r hn (task : Int) l.length 0 (by omega)
  rw [List.drop_zero] at h2
  change rceil l s r ≤ (task : Int) ↔ _ at h2
  rw [Bool.eq_iff_iff]
  simp only [decide_eq_true_eq]
  rw [h2]
  constructor
  · rintro ⟨h, _⟩
    rcases h1.1 h with ⟨i, a, b, c⟩ | h
    · exact .inl ⟨i, Nat.zero_le _, a, b, c⟩
    · exact .inr h
  · rintro (⟨i, _, a, b, c⟩ | h)
    · have := h1.2 (.inl ⟨i, a, b, c⟩)
      exact ⟨this, by omega⟩
    · omega
end Go.Proofs.YteflgdnekflbbaaDoor

namespace Go.Proofs.YteflgdnekflbbaaDoor

/-- Sums over the numbers of a set, and over all numbers. -/
theorem bits_fold {β : Type} (f : β → Nat → β) (s n : Nat) (hn : n ≤ 32) (hfar : ∀ b i, n ≤ i → f b i = b) (b : β) : (bitsL s).foldl f b = (List.range n).foldl (fun b i => if s.testBit i = true then f b i else b) b := by
  have key : ∀ k, k ≤ 32 → ∀ b, ((List.range k).filter (fun i => s.testBit i)).foldl f b = (List.range k).foldl (fun b i => if s.testBit i = true then f b i else b) b := by
    intro k
    induction k with
    | zero => intro _ b; rfl
    | succ k ih =>
      intro hk b
      rw [List.range_succ, List.filter_append, List.foldl_append, List.foldl_append, ih (by omega)]
      by_cases h : s.testBit k = true
      · simp [h]
      · simp [h]
  unfold bitsL
  rw [key 32 (Nat.le_refl _)]
  have split : ∀ j, n + j ≤ 32 → ∀ b, (List.range (n + j)).foldl (fun b i => if s.testBit i = true then f b i else b) b = (List.range n).foldl (fun b i => if s.testBit i = true then f b i else b) b := by
    intro j
    induction j with
    | zero => intro _ b; rfl
    | succ j ih =>
      intro hj b
      rw [show n + (j + 1) = (n + j) + 1 by omega, List.range_succ, List.foldl_append, ih (by omega)]
      simp only [List.foldl_cons, List.foldl_nil]
      split
      · exact hfar _ _ (by omega)
      · rfl
  have := split (32 - n) (by omega) b
  rw [show n + (32 - n) = 32 by omega] at this
  exact this
/-- The terms of those of a set below a task. -/
theorem terms_below (l : List Tsk) (s k : Nat) (hk : k ≤ l.length) (hn : l.length ≤ 16) : termsOf l (belowN s (k : Int)) = aheadK l s k := by
  have h1 : termsOf l (belowN s (k : Int)) = (bitsL (belowN s (k : Int))).foldl (fun b i => b ++ termAt l i) [] := by
    unfold termsOf termsIn
    have : ∀ (is : List Nat) (b : List Trm), is.foldl (fun b i => b ++ termAt l i) b = b ++ is.flatMap (termAt l) := by
      intro is
      induction is with
      | nil => intro b; simp
      | cons i is ih => intro b; rw [List.foldl_cons, ih, List.flatMap_cons, List.append_assoc]
    rw [this, List.nil_append]
  rw [h1, bits_fold _ _ l.length (by omega) (fun b i hi => by unfold termAt; rw [List.getElem?_eq_none hi]; simp)]
  have h2 : ∀ j, j ≤ l.length → (List.range j).foldl (fun b i => if (belowN s (k : Int)).testBit i = true then b ++ termAt l i else b) [] = aheadK l s (min j k) := by
    intro j
    induction j with
    | zero => intro _; simp [aheadK]
    | succ j ih =>
      intro hj
      rw [List.range_succ, List.foldl_append, ih (by omega)]
      simp only [List.foldl_cons, List.foldl_nil]
      rw [belowN_bit _ _ _ (by omega)]
      rcases Nat.lt_or_ge j k with hjk | hjk
      · rw [show min (j + 1) k = min j k + 1 by omega, show min j k = j by omega, aheadK, has10_nat (by omega)]
        rw [decide_eq_true (show (j : Int) < (k : Int) by omega), Bool.and_true]
        split <;> simp
      · rw [show min (j + 1) k = min j k by omega]
        rw [decide_eq_false (show ¬ (j : Int) < (k : Int) by omega), Bool.and_false]
        simp
  rw [h2 l.length (Nat.le_refl _), show min l.length k = k by omega]
theorem terms_all (l : List Tsk) (s : Nat) (hn : l.length ≤ 16) : termsOf l s = aheadK l s l.length := by
  have h1 : termsOf l s = (bitsL s).foldl (fun b i => b ++ termAt l i) [] := by
    unfold termsOf termsIn
    have : ∀ (is : List Nat) (b : List Trm), is.foldl (fun b i => b ++ termAt l i) b = b ++ is.flatMap (termAt l) := by
      intro is
      induction is with
      | nil => intro b; simp
      | cons i is ih => intro b; rw [List.foldl_cons, ih, List.flatMap_cons, List.append_assoc]
    rw [this, List.nil_append]
  rw [h1, bits_fold _ _ l.length (by omega) (fun b i hi => by unfold termAt; rw [List.getElem?_eq_none hi]; simp)]
  have h2 : ∀ j, j ≤ l.length → (List.range j).foldl (fun b i => if s.testBit i = true then b ++ termAt l i else b) [] = aheadK l s j := by
    intro j
    induction j with
    | zero => intro _; simp [aheadK]
    | succ j ih =>
      intro hj
      rw [List.range_succ, List.foldl_append, ih (by omega), aheadK, has10_nat (by omega)]
      simp only [List.foldl_cons, List.foldl_nil]
      split <;> simp
  exact h2 l.length (Nat.le_refl _)
/-- The longest one behind a task. -/
theorem long_same (l : List Tsk) (hold r task : Nat) (hh : hold < 4294967296) (hn : l.length ≤ 16) : longIn l r (bitsL (aboveN hold (task : Int))) = rlong l hold r task l.length := by
  unfold longIn
  rw [bits_fold _ _ l.length (by omega) (fun b i hi => by unfold lonStep; rw [List.getElem?_eq_none hi])]
  have h2 : ∀ j, j ≤ l.length → (List.range j).foldl (fun b i => if (aboveN hold (task : Int)).testBit i = true then lonStep l r b i else b) 0 = rlong l hold r task j := by
    intro j
    induction j with
    | zero => intro _; rfl
    | succ j ih =>
      intro hj
      rw [List.range_succ, List.foldl_append, ih (by omega), rlong, has10_nat (by omega)]
      simp only [List.foldl_cons, List.foldl_nil]
      rw [aboveN_bit _ _ _ hh (by omega)]
      have hs : lonStep l r (rlong l hold r task j) j = max (rlong l hold r task j) ((l.getD j ⟨0, 0, 0, []⟩).lon.getD r 0) := by
        unfold lonStep
        rw [List.getElem?_eq_getElem (by omega), List.getD_eq_getElem?_getD (l := l), List.getElem?_eq_getElem (by omega), Option.getD_some]
      rw [hs]
      by_cases hb : hold.testBit j = true
      · by_cases ht : task < j
        · rw [if_pos (by rw [hb]; simp; omega), if_pos ⟨ht, hb⟩]
        · rw [if_neg (by rw [hb]; simp; omega), if_neg (fun h => ht h.1)]
      · rw [if_neg (by simp [hb]), if_neg (fun h => hb h.2)]
  exact h2 l.length (Nat.le_refl _)
theorem block_same (l : List Tsk) (hold ceils task : Nat) (hh : hold < 4294967296) (hn : l.length ≤ 16) (ht : task < 16) : blockM l hold (ceilOf l ceils) (task : Int) = rblock l hold ceils task := by
  unfold blockM blockIn rblock
  have hbits : ∀ i, 8 ≤ i → (overK (ceilOf l ceils) (task : Int) 8).testBit i = false := fun i hi => by
    rw [overK_bit, decide_eq_false (show ¬ i < 8 by omega), Bool.false_and]
  have hf : bitsL (overK (ceilOf l ceils) (task : Int) 8) = (List.range 8).filter (fun i => (overK (ceilOf l ceils) (task : Int) 8).testBit i) := by
    unfold bitsL
    have : ∀ j, (List.range (8 + j)).filter (fun i => (overK (ceilOf l ceils) (task : Int) 8).testBit i) = (List.range 8).filter (fun i => (overK (ceilOf l ceils) (task : Int) 8).testBit i) := by
      intro j
      induction j with
      | zero => rfl
      | succ j ih =>
        rw [show 8 + (j + 1) = (8 + j) + 1 by omega, List.range_succ, List.filter_append, ih]
        simp [hbits (8 + j) (by omega)]
    exact this 24
  rw [hf]
  have h2 : ∀ j, j ≤ 8 → ((List.range j).filter (fun i => (overK (ceilOf l ceils) (task : Int) 8).testBit i)).foldl (fun a r => a + longIn l r (bitsL (aboveN hold (task : Int)))) 0 = rblockTo l hold ceils task j := by
    intro j
    induction j with
    | zero => intro _; rfl
    | succ j ih =>
      intro hj
      rw [List.range_succ, List.filter_append, List.foldl_append, ih (by omega), rblockTo, ← long_same l hold j task hh hn]
      have hb := over_bit l ceils j (by omega) hn task ht
      by_cases h : rceil l ceils j ≤ (task : Int)
      · rw [if_neg (by omega)]
        simp [hb, h]
      · rw [if_pos (by omega)]
        simp [hb, h]
  exact h2 8 (Nat.le_refl _)
/-- The terms of an image's tasks are small. -/
theorem good_term {x : Img} (h : Small x) : ∀ (s k : Nat) (t : Trm), t ∈ aheadK x.tasks s k → GoodT t
  | s, 0, t, ht => by simp [aheadK] at ht
  | s, k + 1, t, ht => by
    rw [aheadK, List.mem_append] at ht
    rcases ht with ht | ht
    · exact good_term h s k t ht
    · split at ht
      · unfold termAt at ht
        cases hk : x.tasks[k]? with
        | none => rw [hk] at ht; simp at ht
        | some u =>
          rw [hk] at ht
          have ht : t = trmOf u := by simpa using ht
          have hm := List.mem_of_getElem? hk
          subst ht
          exact ⟨h.per u hm, h.cost u hm, rfl, by show (0 : Int) ≤ 0 ∧ (0 : Int) ≤ 4096; omega⟩
      · simp at ht
theorem good_carry {t : Trm} (h : GoodT t) : GoodT (carry t) := ⟨h.per, h.cost, h.off, by show 0 ≤ t.cost ∧ t.cost ≤ 4096; have := h.cost; omega⟩
/-- A task's response is the document's. -/
theorem resp_same {x : Img} (h : Small x) (s hold ceils k : Nat) (hh : hold < 4294967296) (hk : k < x.tasks.length) :
    respM x s hold (ceilOf x.tasks ceils) (k : Int) = (⟨(k : Int), rblock x.tasks hold ceils k, (rrespM x s hold ceils k).getD 0⟩, (rrespM x s hold ceils k).isSome) := by
  have hn := h.n
  have hb := rblockTo_le h hold ceils k 8
  have hm := List.getElem_mem hk
  have hc := h.cost _ hm
  have hd := h.ded _ hm
  have hal := aheadK_le x.tasks s k
  unfold respM
  rw [if_neg (by omega), Int.toNat_natCast, List.getElem?_eq_getElem hk]
  have e : respAt x s hold (ceilOf x.tasks ceils) k x.tasks[k] = rrespM x s hold ceils k := by
    unfold respAt rrespM
    rw [List.getElem?_eq_getElem hk, block_same x.tasks hold ceils k hh hn (by omega), terms_below x.tasks s k (by omega) hn]
    exact least_steps (fun t ht => good_term h s k t ht) (by omega) (by unfold rblock; omega) (by unfold rblock; omega) (by omega)
  show ((⟨(k : Int), blockM x.tasks hold (ceilOf x.tasks ceils) (k : Int), (respAt x s hold (ceilOf x.tasks ceils) k x.tasks[k]).getD 0⟩ : RowM), (respAt x s hold (ceilOf x.tasks ceils) k x.tasks[k]).isSome) = _
  rw [e, block_same x.tasks hold ceils k hh hn (by omega)]
/-- Within how many ticks nobody is there: by steps, as the document's rounds. -/
theorem busy_from {ts : List Trm} (h : ∀ t ∈ ts, GoodT t) (hl : ts.length ≤ 64) : ∀ (k : Nat) (w : Int), 1 ≤ w → itFrom 0 65536 (allM ts) k w = rbusyFrom (allM ts) k w
  | 0, w, _ => rfl
  | k + 1, w, h1 => by
    rw [itFrom, rbusyFrom]
    split
    · rename_i hw
      rw [stepV h hl (by omega) (by omega) (by omega) hw, allM_eq h hl (by omega) hw]
      show (if 0 + allV ts w ≤ w then _ else _) = (if allV ts w ≤ w then _ else _)
      rw [Int.zero_add]
      show (if allV ts w ≤ w then some w else itFrom 0 65536 (allM ts) k (allV ts w)) = _
      split
      · rfl
      · exact busy_from h hl k _ (by omega)
    · rfl
theorem busy_same {x : Img} (h : Small x) (s : Nat) : busyM x s = rbusyM x s := by
  have hn := h.n
  have hal := aheadK_le x.tasks s x.tasks.length
  unfold busyM rbusyM
  rw [terms_all x.tasks s hn]
  unfold leastM
  rw [if_neg (by omega)]
  exact busy_from (fun t ht => by obtain ⟨u, hu, rfl⟩ := List.mem_map.1 ht; exact good_carry (good_term h s _ u hu)) (by simp; omega) _ _ (by omega)
end Go.Proofs.YteflgdnekflbbaaDoor

namespace Go.Proofs.YteflgdnekflbbaaDoor
open Go.RowKit

/-- The numbers of a set that are less than n. -/
def lowL (q n : Nat) : List Nat := (List.range n).filter (fun i => q.testBit i)
theorem lowL_succ (q n : Nat) : lowL q (n + 1) = lowL q n ++ (if q.testBit n = true then [n] else []) := by
  unfold lowL
  rw [List.range_succ, List.filter_append]
  by_cases h : q.testBit n = true <;> simp [h]
theorem bits_low (q n : Nat) (hn : n ≤ 32) (hw : ∀ i, n ≤ i → q.testBit i = false) : bitsL q = lowL q n := by
  have key : ∀ j, n + j ≤ 32 → (List.range (n + j)).filter (fun i => q.testBit i) = lowL q n := by
    intro j
    induction j with
    | zero => intro _; rfl
    | succ j ih =>
      intro hj
      rw [show n + (j + 1) = (n + j) + 1 by omega, List.range_succ, List.filter_append, ih (by omega)]
      simp [hw (n + j) (by omega)]
  have := key (32 - n) (by omega)
  rw [show n + (32 - n) = 32 by omega] at this
  exact this
theorem lowL_lt {q n i : Nat} (h : i ∈ lowL q n) : i < n := by
  unfold lowL at h
  exact List.mem_range.1 (List.mem_filter.1 h).1
/-- The first task that may be late, by the document. -/
def rlate (x : Img) (q n : Nat) : Option Nat := (lowL q n).find? (fun i => (rrespM x q q q i).isNone)
theorem rmode_find (x : Img) (q : Nat) (hn : x.tasks.length ≤ 16) : rmode x q = match rlate x q x.tasks.length with | some i => (i : Int) | none => -1 := by
  have key : ∀ (j k : Nat), k + j = x.tasks.length → rlate x q k = none → rmodeFrom x q j k = match rlate x q x.tasks.length with | some i => (i : Int) | none => -1 := by
    intro j
    induction j with
    | zero => intro k hk hl; rw [show x.tasks.length = k by omega, hl]; rfl
    | succ j ih =>
      intro k hk hl
      rw [rmodeFrom, has10_nat (by omega)]
      have hs : rlate x q (k + 1) = if (q.testBit k && (rrespM x q q q k).isNone) = true then some k else none := by
        unfold rlate at hl ⊢
        rw [lowL_succ, List.find?_append, hl]
        by_cases hb : q.testBit k = true
        · rw [if_pos hb, hb, Bool.true_and]
          by_cases hr : (rrespM x q q q k).isNone = true <;> simp [hr]
        · rw [if_neg hb]; simp [hb]
      by_cases hb : (q.testBit k && (rrespM x q q q k).isNone) = true
      · rw [if_pos hb] at hs ⊢
        have pre : ∀ m, k + 1 ≤ m → rlate x q m = some k := by
          intro m
          induction m with
          | zero => intro h; omega
          | succ m ih2 =>
            intro h
            rcases Nat.lt_or_ge m (k + 1) with h1 | h1
            · obtain rfl : m = k := by omega
              exact hs
            · have := ih2 h1
              unfold rlate at this ⊢
              rw [lowL_succ, List.find?_append, this]; rfl
        rw [pre x.tasks.length (by omega)]
      · rw [if_neg hb] at hs ⊢
        exact ih (k + 1) (by omega) hs
  exact key x.tasks.length 0 (by omega) rfl
/-- What is known of a task, by the document. -/
def rrow (x : Img) (q i : Nat) : RowM := ⟨(i : Int), rblock x.tasks q q i, (rrespM x q q q i).getD 0⟩
theorem mode_same {x : Img} (h : Small x) (q : Nat) (hq : q < 4294967296) (hw : ∀ i, x.tasks.length ≤ i → q.testBit i = false) :
    modeM x q = match rlate x q x.tasks.length with | some i => ⟨[], i, false⟩ | none => ⟨(lowL q x.tasks.length).map (rrow x q), 0, true⟩ := by
  have hn := h.n
  unfold modeM
  have hl : lateIn x q (ceilOf x.tasks q) (bitsL q) = rlate x q x.tasks.length := by
    unfold lateIn rlate
    rw [bits_low q x.tasks.length (by omega) hw]
    have : ∀ l : List Nat, (∀ i ∈ l, i < x.tasks.length) → l.find? (fun (i : Nat) => !(respM x q q (ceilOf x.tasks q) (i : Int)).2) = l.find? (fun i => (rrespM x q q q i).isNone) := by
      intro l
      induction l with
      | nil => intro _; rfl
      | cons a l ih =>
        intro hl
        rw [List.find?_cons, List.find?_cons, resp_same h q q q a hq (hl a (by simp)), ih (fun i hi => hl i (by simp [hi]))]
        cases rrespM x q q q a <;> rfl
    exact this _ (fun i hi => lowL_lt hi)
  rw [hl]
  cases rlate x q x.tasks.length with
  | some i => rfl
  | none =>
    show ModeM.mk _ _ _ = _
    congr 1
    unfold rowsIn
    rw [bits_low q x.tasks.length (by omega) hw]
    exact List.map_congr_left (fun i hi => by rw [resp_same h q q q i hq (lowL_lt hi)]; rfl)
theorem low_get (q : Nat) : ∀ (n i : Nat), i < n → q.testBit i = true → ∃ r, lowL q n = lowL q i ++ i :: r
  | 0, i, h, _ => by omega
  | n + 1, i, h, hb => by
    rcases Nat.lt_or_ge i n with h1 | h1
    · obtain ⟨r, hr⟩ := low_get q n i h1 hb
      rw [lowL_succ, hr]
      exact ⟨r ++ (if q.testBit n = true then [n] else []), by simp⟩
    · obtain rfl : i = n := by omega
      rw [lowL_succ, if_pos hb]
      exact ⟨[], rfl⟩
theorem slack_row {x : Img} (q i : Nat) (t : Tsk) (ht : x.tasks[i]? = some t) : aheadOf x.tasks (rrow x q i) = t.ded - (rrespM x q q q i).getD 0 := by
  unfold aheadOf rrow
  rw [Int.toNat_natCast, ht]
theorem rresp_le {x : Img} (h : Small x) (q k : Nat) (t : Tsk) (ht : x.tasks[k]? = some t) : 0 ≤ (rrespM x q q q k).getD 0 ∧ (rrespM x q q q k).getD 0 ≤ t.ded := by
  have hm := List.mem_of_getElem? ht
  have hd := h.ded t hm
  cases hr : rrespM x q q q k with
  | none => show 0 ≤ (0 : Int) ∧ (0 : Int) ≤ t.ded; omega
  | some n =>
    show 0 ≤ n ∧ n ≤ t.ded
    unfold rrespM at hr
    rw [ht] at hr
    have hn := h.n
    have hc := h.cost t hm
    have hk : k < x.tasks.length := (List.getElem?_eq_some_iff.1 ht).1
    have hal := aheadK_le x.tasks q k
    have hb := rblockTo_le h q q k 8
    have := leastR_some (fun u hu => good_term h q k u hu) (by omega) (by unfold rblock; omega) (by unfold rblock; omega) (by omega) hr
    omega
end Go.Proofs.YteflgdnekflbbaaDoor
