/- What is known of an admitted image's edges: plain; no program in sight. Condition: the image is admitted. -/
import Derived.Test.YteflgdnekflbbaaDoorCertF
import Derived.Test.YteflgdnekflbbaaDoorChQ
namespace Go.Proofs.YteflgdnekflbbaaDoor

/-- An image with the spans that its certificate tells. -/
def chX (x : Img) : ChX := ⟨x, (List.range x.edges.length).map (fun k => (edgeM x k).1.1.toNat), (List.range x.edges.length).map (fun k => (edgeM x k).1.2.toNat)⟩
theorem range_getD (f : Nat → Nat) (n k : Nat) (hk : k < n) : ((List.range n).map f).getD k 0 = f k := by
  rw [List.getD_eq_getElem?_getD, List.getElem?_map, List.getElem?_range hk]; rfl
theorem range_getD0 (f : Nat → Nat) (n k : Nat) (hk : ¬ k < n) : ((List.range n).map f).getD k 0 = 0 := by
  rw [List.getD_eq_getElem?_getD, List.getElem?_eq_none (by simpa using hk)]; rfl
theorem longW_le {x : Img} (h : Small x) : ∀ (is : List Nat) (n : Int), 0 ≤ n → n ≤ 4096 → 0 ≤ is.foldl (longStep x) n ∧ is.foldl (longStep x) n ≤ 4096
  | [], n, h0, h1 => ⟨h0, h1⟩
  | i :: is, n, h0, h1 => by
    rw [List.foldl_cons]
    have : 0 ≤ longStep x n i ∧ longStep x n i ≤ 4096 := by
      unfold longStep
      cases e : x.tasks[i]? with
      | none => exact ⟨h0, h1⟩
      | some t =>
        have := h.per t (List.mem_of_getElem? e)
        show 0 ≤ max n t.per ∧ max n t.per ≤ 4096
        omega
    exact longW_le h is _ this.1 this.2
theorem winM_le {x : Img} (h : Small x) {c : Cls} {T L : List Int} (hL : OffOk L) {task n : Int} (hw : winM x c T L task = some n) : 0 ≤ n ∧ n ≤ 20480 := by
  unfold winM at hw
  split at hw
  · split at hw
    · rename_i t ht
      unfold winAt at hw
      have h1 := leastM_le hw
      have h2 := h.ded t (List.mem_of_getElem? ht)
      have h3 := offW_le (c := c) hL ((task.toNat : Nat) : Int)
      omega
    · cases hw
  · cases hw
theorem behM_le {x : Img} (h : Small x) {c : Cls} {T : List Int} {task : Int} : 0 ≤ (behM x c T task).getD 0 ∧ (behM x c T task).getD 0 ≤ 4096 := by
  cases hb : behM x c T task with
  | none => simp
  | some n =>
    rw [Option.getD_some]
    unfold behM at hb
    split at hb
    · split at hb
      · rename_i t ht
        unfold respAt at hb
        have h1 := leastM_le hb
        have h2 := h.ded t (List.mem_of_getElem? ht)
        omega
      · cases hb
    · cases hb
theorem lateM_le {x : Img} (h : Small x) {c : Cls} {T L : List Int} (hL : OffOk L) (task : Int) : 0 ≤ (lateM x c T L task).1 ∧ (lateM x c T L task).1 ≤ 20480 := by
  unfold lateM
  cases hw : winM x c T L task with
  | none => simp
  | some n =>
    have h1 := winM_le h hL hw
    have h2 := behM_le h (c := c) (T := T) (task := task)
    dsimp only
    split
    · show 0 ≤ max n _ ∧ max n _ ≤ 20480
      omega
    · exact h1
theorem span_from {x : Img} (h : Small x) {c : Cls} {T L : List Int} (hL : OffOk L) : ∀ (is : List Nat) (p : Int × Int), 0 ≤ p.1 ∧ p.1 ≤ 20480 → 0 ≤ p.2 ∧ p.2 ≤ 20480 →
    (0 ≤ (is.foldl (spanStep x c T L) p).1 ∧ (is.foldl (spanStep x c T L) p).1 ≤ 20480) ∧ (p.2 ≤ (is.foldl (spanStep x c T L) p).2 ∧ (is.foldl (spanStep x c T L) p).2 ≤ 20480) ∧ ∀ i ∈ is, offW c L (i : Int) ≤ (is.foldl (spanStep x c T L) p).2
  | [], p, h1, h2 => ⟨h1, ⟨Int.le_refl _, h2.2⟩, fun i hi => by cases hi⟩
  | i :: is, p, h1, h2 => by
    have h3 := lateM_le h hL (c := c) (T := T) (i : Int)
    have h4 := offW_le (c := c) hL (i : Int)
    obtain ⟨g1, g2, g3⟩ := span_from h hL is (spanStep x c T L p i) (by unfold spanStep; show 0 ≤ max _ _ ∧ max _ _ ≤ 20480; omega) (by unfold spanStep; show 0 ≤ max _ _ ∧ max _ _ ≤ 20480; omega)
    rw [List.foldl_cons]
    have h5 : (spanStep x c T L p i).2 = max p.2 (offW c L (i : Int)) := rfl
    rw [h5] at g2
    refine ⟨g1, ⟨by omega, g2.2⟩, fun j hj => ?_⟩
    rcases List.mem_cons.1 hj with rfl | hj
    · omega
    · exact g3 j hj
theorem clsE_new (x : Img) {k : Nat} (hk : k < x.edges.length) : (clsE x k).new = newN x k := by
  unfold clsE newN
  rw [edg_at hk, List.getElem?_eq_getElem hk]
  rfl
theorem edge_span {x : Img} (hc : (chkImg x).2 = 0) (ho : x.Ok) {k : Nat} (hk : k < x.edges.length) :
    (0 ≤ (edgeM x k).1.1 ∧ (edgeM x k).1.1 ≤ 65536) ∧ (0 ≤ (edgeM x k).1.2 ∧ (edgeM x k).1.2 ≤ 65536) ∧ (ePr x k = 3 → (edgeM x k).2 = true → ∀ i ∈ bitsL (newN x k), eOff x k i ≤ (edgeM x k).1.1) := by
  obtain ⟨hp, hO⟩ := edge_offs hc ho k hk
  have hs := small_of hc
  unfold ePr eOff
  rw [edg_at hk, ← clsE_new x hk]
  unfold edgeM
  rw [List.getElem?_eq_getElem hk]
  dsimp only
  by_cases h1 : x.edges[k].prot = 1
  · rw [if_pos h1]
    have : 0 ≤ (busyM x (clsE x k).from_).getD 0 ∧ (busyM x (clsE x k).from_).getD 0 ≤ 65536 := by
      cases hb : busyM x (clsE x k).from_ with
      | none => simp
      | some n => exact leastM_le hb
    exact ⟨this, by simp, fun h => by omega⟩
  · rw [if_neg h1]
    by_cases h2 : x.edges[k].prot = 2
    · rw [if_pos h2]
      have := longW_le hs (bitsL (clsE x k).both) 0 (by omega) (by omega)
      refine ⟨?_, by simp, fun h => by omega⟩
      show 0 ≤ longW _ _ ∧ longW _ _ ≤ 65536
      unfold longW
      omega
    · rw [if_neg h2]
      obtain ⟨g1, g2, g3⟩ := span_from hs hO (c := clsE x k) (T := tabE x k) (bitsL (clsE x k).both) (0, 0) (by simp) (by simp)
      cases hsp : spanM x (clsE x k) (tabE x k) x.edges[k].offs with
      | none => exact ⟨by simp, by simp, fun _ h => (by cases h)⟩
      | some p =>
        unfold spanM at hsp
        split at hsp
        · have e : p = (max (spanIn x (clsE x k) (tabE x k) x.edges[k].offs (bitsL (clsE x k).both)).1 (spanIn x (clsE x k) (tabE x k) x.edges[k].offs (bitsL (clsE x k).both)).2, (spanIn x (clsE x k) (tabE x k) x.edges[k].offs (bitsL (clsE x k).both)).1) := by
            exact (Option.some.inj hsp).symm
          unfold spanIn at e
          subst e
          simp only [Option.getD_some]
          have g2b := g2.1
          have : (0 : Int) ≤ (List.foldl (spanStep x (clsE x k) (tabE x k) x.edges[k].offs) (0, 0) (bitsL (clsE x k).both)).2 := g2b
          refine ⟨by omega, by omega, fun _ _ i hi => ?_⟩
          have hib : i ∈ bitsL (clsE x k).both := by
            rw [bitsL_mem] at hi ⊢
            refine ⟨hi.1, ?_⟩
            unfold Cls.both
            rw [Nat.testBit_or, Nat.testBit_or, hi.2]
            simp
          have h5 := g3 i hib
          have h6 : offW (clsE x k) x.edges[k].offs (i : Int) = x.edges[k].offs.getD i 0 := by
            unfold offW
            rw [bitsL_mem] at hi
            rw [if_pos (by rw [has10_nat _ _ hi.1]; exact hi.2), Int.toNat_natCast]
          rw [h6] at h5
          omega
        · cases hsp
theorem set16 {x : Img} (hc : (chkImg x).2 = 0) (m : Int) : setOf10 x m < 65536 := by
  have hR := right_of hc
  have h16 := hR.nt.2
  unfold setOf10
  split
  · rw [List.getD_eq_getElem?_getD, List.getElem?_eq_getElem (by omega)]
    have h1 := (hR.mode _ (List.getElem_mem (l := x.modes) (n := m.toNat) (by omega))).1
    simp only [Option.getD_some]
    have h2 : (x.modes[m.toNat]'(by omega)).set ≤ allSet x.tasks.length := by rw [← h1]; exact Nat.left_le_or
    have h3 : 2 ^ x.tasks.length ≤ 2 ^ 16 := Nat.pow_le_pow_right (by decide) h16
    unfold allSet at h2
    have := Nat.two_pow_pos x.tasks.length
    omega
  · omega
/-- What is known of an image that is admitted, and its spans. -/
theorem chG_of {x : Img} (hc : (chkImg x).2 = 0) (ho : x.Ok) (he : ∀ k, k < x.edges.length → (edgeM x k).2 = true) : ChG (chX x) := by
  have hR := right_of hc
  have e0 : ∀ k, (chX x).la k = if k < x.edges.length then (edgeM x k).1.1.toNat else 0 := fun k => by
    unfold ChX.la chX
    split
    · rename_i h; exact range_getD _ _ _ h
    · rename_i h; exact range_getD0 _ _ _ h
  have e1 : ∀ k, (chX x).st k = if k < x.edges.length then (edgeM x k).1.2.toNat else 0 := fun k => by
    unfold ChX.st chX
    split
    · rename_i h; exact range_getD _ _ _ h
    · rename_i h; exact range_getD0 _ _ _ h
  have hx : (chX x).x = x := rfl
  refine ⟨ho, fun k (hk : k < x.edges.length) => ?_, fun k (hk : k < x.edges.length) => ?_, fun k => ?_, fun k => ?_, fun k i hi => ?_, fun m => set16 hc m, fun k (hk : k < x.edges.length) h3 i hi => ?_⟩
  · have := (hR.edgeIn k hk).2.2
    rw [hx]
    unfold ePr
    rw [edg_at hk]
    omega
  · rw [hx, edg_at hk]
    have := hR.edgeIn k hk
    exact ⟨this.1, this.2.1⟩
  · rw [e0]
    split
    · rename_i hk; have := (edge_span hc ho hk).1; omega
    · omega
  · rw [e1]
    split
    · rename_i hk; have := (edge_span hc ho hk).2.1; omega
    · omega
  · rw [bitsL_mem] at hi
    have h1 := set16 hc (edg x k).to
    rcases Nat.lt_or_ge i 16 with h2 | h2
    · exact h2
    · have h3 : newN x k < 65536 := by
        unfold newN
        refine Nat.lt_pow_two_of_testBit (n := 16) _ (fun j hj => ?_)
        rw [minusN_testBit _ _ _ (by omega) (by have := set16 hc (edg x k).frm; omega), Nat.testBit_lt_two_pow (Nat.lt_of_lt_of_le h1 (Nat.pow_le_pow_right (by decide) hj : 2 ^ 16 ≤ 2 ^ j))]
        rfl
      have h4 := hi.2
      rw [show (chX x).x = x from rfl, Nat.testBit_lt_two_pow (Nat.lt_of_lt_of_le h3 (Nat.pow_le_pow_right (by decide) h2 : 2 ^ 16 ≤ 2 ^ i))] at h4
      cases h4
  · have hg := edge_span hc ho hk
    rw [e0, if_pos hk]
    have h1 := hg.2.2 h3 (he k hk) i hi
    have h2 := hg.1
    rw [hx]
    omega
end Go.Proofs.YteflgdnekflbbaaDoor
