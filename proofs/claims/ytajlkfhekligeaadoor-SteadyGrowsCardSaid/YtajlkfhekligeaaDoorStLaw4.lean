/- The plain law of steady: with a task more, or one that takes longer, no response is less. No program in sight. -/
import Derived.Test.YtajlkfhekligeaaDoorStLaw
namespace Go.Proofs.YtajlkfhekligeaaDoor

/-- Task k takes longer, if it may. -/
def longer (t : Tsk) : Tsk := if t.cost < t.ded then { t with cost := t.cost + 1 } else t
def grownT (l : List Tsk) (k : Nat) : List Tsk := match l[k]? with | some t => l.set k (longer t) | none => l
def grown (x : Img) (k : Nat) : Img := { x with tasks := grownT x.tasks k }
theorem grownT_len (l : List Tsk) (k : Nat) : (grownT l k).length = l.length := by unfold grownT; split <;> simp
theorem grownT_get (l : List Tsk) (k i : Nat) : (grownT l k)[i]? = if i = k then l[i]?.map longer else l[i]? := by
  unfold grownT
  cases hk : l[k]? with
  | none =>
    show l[i]? = _
    by_cases e : i = k
    · subst e; rw [if_pos rfl, hk]; rfl
    · rw [if_neg e]
  | some t =>
    show (l.set k (longer t))[i]? = _
    have hl := (List.getElem?_eq_some_iff.1 hk).1
    rw [List.getElem?_set]
    by_cases e : k = i
    · subst e; rw [if_pos rfl, if_pos hl, if_pos rfl, hk]; rfl
    · rw [if_neg e, if_neg (fun h => e h.symm)]
theorem longer_lon (t : Tsk) : (longer t).lon = t.lon := by unfold longer; split <;> rfl
theorem longer_per (t : Tsk) : (longer t).per = t.per := by unfold longer; split <;> rfl
theorem longer_ded (t : Tsk) : (longer t).ded = t.ded := by unfold longer; split <;> rfl
theorem longer_cost (t : Tsk) : t.cost ≤ (longer t).cost ∧ (longer t).cost ≤ max t.cost t.ded := by
  unfold longer
  split
  · show t.cost ≤ t.cost + 1 ∧ t.cost + 1 ≤ max t.cost t.ded; omega
  · omega
theorem grownT_mem {l : List Tsk} {k : Nat} {u : Tsk} (h : u ∈ grownT l k) : ∃ t ∈ l, u = t ∨ u = longer t := by
  obtain ⟨i, hi, rfl⟩ := List.mem_iff_getElem.1 h
  have hg := grownT_get l k i
  rw [List.getElem?_eq_getElem hi] at hg
  rw [grownT_len] at hi
  rw [List.getElem?_eq_getElem hi] at hg
  refine ⟨l[i], List.getElem_mem hi, ?_⟩
  split at hg
  · right; injection hg
  · left; injection hg
theorem grown_small {x : Img} (h : Small x) (k : Nat) : Small (grown x k) := by
  refine ⟨by show (grownT x.tasks k).length ≤ 16; rw [grownT_len]; exact h.n, fun u hu => ?_, fun u hu => ?_, fun u hu => ?_, fun u hu => ?_⟩
  all_goals
    obtain ⟨t, ht, e⟩ := grownT_mem hu
    have h1 := h.lon t ht
    have h2 := h.cost t ht
    have h3 := h.ded t ht
    have h4 := h.per t ht
    have h5 := longer_cost t
  · rcases e with rfl | rfl
    · exact h1
    · rw [longer_lon]; exact h1
  · rcases e with rfl | rfl
    · exact h2
    · omega
  · rcases e with rfl | rfl
    · exact h3
    · rw [longer_ded]; exact h3
  · rcases e with rfl | rfl
    · exact h4
    · rw [longer_per]; exact h4
/-- Two rows of tasks hold the same. -/
structure LonSame (l l' : List Tsk) : Prop where
  len : l'.length = l.length
  lon : ∀ (i r : Nat), (match l'[i]? with | some (t : Tsk) => t.lon.getD r 0 | none => 0) = (match l[i]? with | some (t : Tsk) => t.lon.getD r 0 | none => 0)
theorem grown_lon (l : List Tsk) (k : Nat) : LonSame l (grownT l k) := by
  refine ⟨grownT_len l k, fun i r => ?_⟩
  rw [grownT_get]
  by_cases e : i = k
  · rw [if_pos e]
    cases l[i]? with
    | none => rfl
    | some t => show (longer t).lon.getD r 0 = _; rw [longer_lon]
  · rw [if_neg e]
theorem LonSame.uses {l l' : List Tsk} (h : LonSame l l') (i r : Nat) : usesR l' i r = usesR l i r := by
  have hl := h.lon i r
  have hn := h.len
  unfold usesR
  rcases Nat.lt_or_ge i l.length with hi | hi
  · rw [List.getElem?_eq_getElem hi, List.getElem?_eq_getElem (show i < l'.length by omega)] at hl ⊢
    dsimp only at hl ⊢
    rw [hl]
  · rw [List.getElem?_eq_none hi, List.getElem?_eq_none (show l'.length ≤ i by omega)]
/-- More in a set: a ceiling that was at a task or ahead of it is so still. -/
theorem rceil_more {l l' : List Tsk} (h : LonSame l l') {s s' : Nat} (hs : ∀ i, s.testBit i = true → s'.testBit i = true) (r : Nat) (hn : l.length ≤ 16) (task : Int) (hc : rceil l s r ≤ task) : rceil l' s' r ≤ task := by
  have h1 := rceil_le l s r hn task l.length 0 (by omega)
  have h2 := rceil_le l' s' r (by rw [h.len]; exact hn) task l'.length 0 (by omega)
  rw [List.drop_zero] at h1 h2
  change rceil l s r ≤ task ↔ _ at h1
  change rceil l' s' r ≤ task ↔ _ at h2
  rw [h2]
  rcases h1.1 hc with ⟨i, a, b, c, d⟩ | h3
  · exact .inl ⟨i, a, b, hs i c, by rw [h.uses]; exact d⟩
  · exact .inr h3
theorem rlong_more {l l' : List Tsk} (h : LonSame l l') {s s' : Nat} (hs : ∀ i, s.testBit i = true → s'.testBit i = true) (r task : Nat) (hn : l.length ≤ 16) : ∀ k, k ≤ l.length → rlong l s r task k ≤ rlong l' s' r task k
  | 0, _ => Int.le_refl _
  | k + 1, hk => by
    have ih := rlong_more h hs r task hn k (by omega)
    have hl := h.lon k r
    have hlen := h.len
    rw [List.getElem?_eq_getElem (show k < l.length by omega), List.getElem?_eq_getElem (show k < l'.length by omega)] at hl
    dsimp only at hl
    rw [rlong, rlong, has10_nat (by omega), has10_nat (by omega), List.getD_eq_getElem?_getD (l := l), List.getD_eq_getElem?_getD (l := l'), List.getElem?_eq_getElem (show k < l.length by omega), List.getElem?_eq_getElem (show k < l'.length by omega), Option.getD_some, Option.getD_some, hl]
    by_cases h1 : task < k ∧ s.testBit k = true
    · rw [if_pos h1, if_pos ⟨h1.1, hs k h1.2⟩]; omega
    · rw [if_neg h1]
      split <;> omega
theorem rblock_more {l l' : List Tsk} (h : LonSame l l') {s s' : Nat} (hs : ∀ i, s.testBit i = true → s'.testBit i = true) (task : Nat) (hn : l.length ≤ 16) (hp : ∀ r k, k ≤ l'.length → 0 ≤ rlong l' s' r task k) : rblock l s s task ≤ rblock l' s' s' task := by
  have key : ∀ r, rblockTo l s s task r ≤ rblockTo l' s' s' task r := by
    intro r
    induction r with
    | zero => exact Int.le_refl _
    | succ r ih =>
      rw [rblockTo, rblockTo]
      have h1 := rlong_more h hs r task hn l.length (Nat.le_refl _)
      rw [← h.len] at h1
      have h2 := hp r l'.length (Nat.le_refl _)
      rw [h.len] at h1 h2 ⊢
      by_cases hc : (task : Int) < rceil l s r
      · rw [if_pos hc]
        split <;> omega
      · have := rceil_more h hs r hn (task : Int) (by omega)
        rw [if_neg hc, if_neg (by omega)]
        omega
  exact key 8
/-- More that comes. -/
theorem ahead_more {x : Img} (hx : Small x) (k : Nat) {s s' : Nat} (hs : ∀ i, s.testBit i = true → s'.testBit i = true) (v : Int) (h0 : 0 ≤ v) (h1 : v ≤ 65536) : ∀ j, j ≤ x.tasks.length → allV (aheadK x.tasks s j) v ≤ allV (aheadK (grown x k).tasks s' j) v
  | 0, _ => Int.le_refl _
  | j + 1, hj => by
    have hn := hx.n
    have ih := ahead_more hx k hs v h0 h1 j (by omega)
    have hg := grownT_get x.tasks k j
    have hjl : j < x.tasks.length := by omega
    rw [List.getElem?_eq_getElem hjl] at hg
    rw [aheadK, aheadK, has10_nat (by omega), has10_nat (by omega), allV_append, allV_append]
    have hw : allV (termAt x.tasks j) v ≤ allV (termAt (grown x k).tasks j) v ∧ 0 ≤ allV (termAt (grown x k).tasks j) v := by
      have e1 : termAt x.tasks j = [trmOf x.tasks[j]] := by unfold termAt; rw [List.getElem?_eq_getElem hjl]
      have hm := List.getElem_mem hjl
      have hc := hx.cost _ hm
      have hp := hx.per _ hm
      have hjv := jobsV_le hp.1 h0
      have hlc := longer_cost x.tasks[j]
      rw [e1]
      by_cases e : j = k
      · rw [if_pos e] at hg
        have e2 : termAt (grown x k).tasks j = [trmOf (longer x.tasks[j])] := by
          unfold termAt
          show (match (grownT x.tasks k)[j]? with | some t => [trmOf t] | none => []) = _
          rw [hg]; rfl
        rw [e2, allV_cons, allV_cons]
        have hmul := Int.mul_le_mul_of_nonneg_left hlc.1 hjv.1
        have hz : 0 ≤ (if v = 0 then 0 else (v - 1) / x.tasks[j].per + 1) * x.tasks[j].cost := Int.mul_nonneg hjv.1 (by omega)
        have hE : allV [] v = 0 := rfl
        rw [hE]
        have w1 : workV (trmOf x.tasks[j]) v = (if v = 0 then 0 else (v - 1) / x.tasks[j].per + 1) * x.tasks[j].cost + 0 := rfl
        have w2 : workV (trmOf (longer x.tasks[j])) v = (if v = 0 then 0 else (v - 1) / (longer x.tasks[j]).per + 1) * (longer x.tasks[j]).cost + 0 := rfl
        rw [longer_per] at w2
        rw [w1, w2]
        omega
      · rw [if_neg e] at hg
        have e2 : termAt (grown x k).tasks j = [trmOf x.tasks[j]] := by
          unfold termAt
          show (match (grownT x.tasks k)[j]? with | some t => [trmOf t] | none => []) = _
          rw [hg]
        rw [e2]
        refine ⟨Int.le_refl _, ?_⟩
        have hgt : GoodT (trmOf x.tasks[j]) := ⟨hp, hc, rfl, by show (0 : Int) ≤ 0 ∧ (0 : Int) ≤ 4096; omega⟩
        have := workV_le hgt h0 h1
        rw [allV_cons]
        have hE : allV [] v = 0 := rfl
        omega
    have hE : allV [] v = 0 := rfl
    by_cases hb : s.testBit j = true
    · rw [if_pos hb, if_pos (hs j hb)]; omega
    · rw [if_neg hb, hE]
      split
      · omega
      · rw [hE]; omega
/-- The law: no block is less; no response, but for the one that takes longer. -/
theorem grows {x : Img} (hx : Small x) (k : Nat) {s s' : Nat} (hs4 : s < 4294967296) (hs4' : s' < 4294967296) (hs : ∀ i, s.testBit i = true → s'.testBit i = true) (i : Nat) (hi : i < x.tasks.length) :
    (respM x s s (ceilOf x.tasks s) (i : Int)).1.block ≤ (respM (grown x k) s' s' (ceilOf (grown x k).tasks s') (i : Int)).1.block ∧
    (i ≠ k → (respM (grown x k) s' s' (ceilOf (grown x k).tasks s') (i : Int)).2 = true → (respM x s s (ceilOf x.tasks s) (i : Int)).2 = true ∧
      (respM x s s (ceilOf x.tasks s) (i : Int)).1.resp ≤ (respM (grown x k) s' s' (ceilOf (grown x k).tasks s') (i : Int)).1.resp) := by
  have hy := grown_small hx k
  have hn := hx.n
  have hyl : (grown x k).tasks.length = x.tasks.length := grownT_len x.tasks k
  rw [resp_same hx s s s i hs4 hi, resp_same hy s' s' s' i hs4' (by omega)]
  have hbl := rblock_more (grown_lon x.tasks k) hs i hn (fun r j hj => (rlong_le hy s' r i j hj).1)
  refine ⟨hbl, fun hik hok => ?_⟩
  have hok : (rrespM (grown x k) s' s' s' i).isSome = true := hok
  have hg := grownT_get x.tasks k i
  rw [if_neg hik, List.getElem?_eq_getElem hi] at hg
  obtain ⟨n, hnr⟩ := Option.isSome_iff_exists.1 hok
  have hm := List.getElem_mem hi
  have hc := hx.cost _ hm
  have hd := hx.ded _ hm
  have b1 := rblockTo_le hx s s i 8
  have b2 := rblockTo_le hy s' s' i 8
  have a1 := aheadK_le x.tasks s i
  have a2 := aheadK_le (grown x k).tasks s' i
  have e1 : rrespM x s s s i = leastR (x.tasks[i].cost + rblock x.tasks s s i) x.tasks[i].ded (allM (aheadK x.tasks s i)) := by unfold rrespM; rw [List.getElem?_eq_getElem hi]
  have e2 : rrespM (grown x k) s' s' s' i = leastR (x.tasks[i].cost + rblock (grown x k).tasks s' s' i) x.tasks[i].ded (allM (aheadK (grown x k).tasks s' i)) := by
    unfold rrespM
    show (match (grownT x.tasks k)[i]? with | some t => _ | none => none) = _
    rw [hg]
  rw [e2] at hnr
  have hab : x.tasks[i].cost + rblockTo x.tasks s s i 8 ≤ x.tasks[i].cost + rblockTo (grown x k).tasks s' s' i 8 := by
    have : rblockTo x.tasks s s i 8 ≤ rblockTo (grown x k).tasks s' s' i 8 := hbl
    omega
  unfold rblock at *
  obtain ⟨m, h1, h2⟩ := leastR_grows (fun t ht => good_term hx s i t ht) (fun t ht => good_term hy s' i t ht) (by omega) (by omega) (a := x.tasks[i].cost + rblockTo x.tasks s s i 8) (b := x.tasks[i].cost + rblockTo (grown x k).tasks s' s' i 8) (most := x.tasks[i].ded) (by omega) hab (by omega) (by omega) (fun v hv0 hv1 => ahead_more hx k hs v hv0 hv1 i (by omega)) hnr
  have e3 : rrespM x s s s i = some m := by rw [e1]; exact h1
  have e4 : rrespM (grown x k) s' s' s' i = some n := by rw [e2]; exact hnr
  show (rrespM x s s s i).isSome = true ∧ (rrespM x s s s i).getD 0 ≤ (rrespM (grown x k) s' s' s' i).getD 0
  rw [e3, e4]
  exact ⟨rfl, h2⟩
end Go.Proofs.YtajlkfhekligeaaDoor
