/- FlagsPlays: the law's own helpers and the law, walked: it answers true for every row of calls. -/
import Derived.Test.YtgonnddgljgghaaFlags
import Derived.Test.YtgonnddgljgghaaRef03
import Derived.Deep.Slices
namespace Go.Proofs.Ytgonnddgljgghaa
open Go.RowKit

set_option maxRecDepth 100000 in
set_option maxHeartbeats 400000 in
theorem both_any (A A' : Option Addr) (n n' c c' : Nat) (xs ys : List Int) (w : World) (hr : Reads w 1 A n (ints xs)) (hr' : Reads w 1 A' n' (ints ys)) (hm : n ≤ 1024) (hm' : n' ≤ 1024) :
    Calls Try.prog 11 #[.slice A n c, .slice A' n' c'] w (RetInts w (xs.filter (fun x => decide (x ∈ ys)))) := by
  have HN : Hid (xs.length = n) := show xs.length = n by simpa using hr.len
  go_enter Try.func11, Try.ntmps11
  go_wp2
  go_loopw [5, 6] (fun v i wr => ∃ k : Nat, k ≤ n ∧ i = .int .i64 k ∧ OwnInts w wr v ((xs.take k).filter (fun x => decide (x ∈ ys)))) (fun _ i _ => n - (intOf i).toNat)
  case atStart => exact ⟨0, Nat.zero_le _, rfl, OwnInts.nil w⟩
  case round =>
    obtain ⟨k, hk, rfl, hown⟩ := hrel
    by_cases hlt : k < n
    · have hl : k < xs.length := by rw [HN.out]; exact hlt
      obtain ⟨b, o, u, rfl, hb, hu, hcell⟩ := (hr.keep0 hown.2).at_ hlt
      obtain rfl := ints_at hu hl
      have hry := hr'.keep0 hown.2
      have hlen : ((xs.take k).filter (fun x => decide (x ∈ ys))).length ≤ k := Nat.le_trans (List.length_filter_le _ _) (by simp; omega)
      have HT : Hid ((xs.take (k + 1)).filter (fun x => decide (x ∈ ys)) = (xs.take k).filter (fun x => decide (x ∈ ys)) ++ if xs[k] ∈ ys then [xs[k]] else []) := by
        show _ = _
        rw [List.take_succ_eq_append_getElem hl, List.filter_append]
        by_cases h : xs[k] ∈ ys <;> simp [h]
      have hB := hown.2.size
      go_wp2_with (first
        | (go_at_call 60; refine (in_any A' n' c' ys _ _ hry (by unfold maxLen; omega)).mono ?_; rintro e w' ⟨rfl, rfl⟩)
        | (at_builtin; refine wpList_append_one rfl (.tmp 19) (.tmp 24) 28 rfl slice_int hown.1 rfl rfl (us := [.int .i64 xs[k]]) rfl (by simp [Value.oneCell']) hB (by omega) (by unfold maxLen; omega) ?_; intro v' w1 hown1 hgrow1 hat1))
      · have h : xs[k] ∈ ys := by assumption
        have R := hown.app hown1 hgrow1
        go_roundw
        case rel => exact ⟨k + 1, by omega, by go_num, by rw [HT.out, if_pos h]; exact R⟩
        case measure => simp [intOf]; omega
      · have h : ¬ xs[k] ∈ ys := by assumption
        go_roundw
        case rel => exact ⟨k + 1, by omega, by go_num, by rw [HT.out, if_neg h, List.append_nil]; exact hown⟩
        case measure => simp [intOf]; omega
    · have H := Lib.hid hown.ret
      rw [List.take_of_length_le (by rw [HN.out]; omega)] at H
      clear hown
      go_wp2
      go_ret
      exact H.out

set_option maxRecDepth 100000 in
set_option maxHeartbeats 400000 in
theorem without_any (A A' : Option Addr) (n n' c c' : Nat) (xs ys : List Int) (w : World) (hr : Reads w 1 A n (ints xs)) (hr' : Reads w 1 A' n' (ints ys)) (hm : n ≤ 1024) (hm' : n' ≤ 1024) :
    Calls Try.prog 13 #[.slice A n c, .slice A' n' c'] w (RetInts w (xs.filter (fun x => !decide (x ∈ ys)))) := by
  have HN : Hid (xs.length = n) := show xs.length = n by simpa using hr.len
  go_enter Try.func13, Try.ntmps13
  go_wp2
  go_loopw [5, 6] (fun v i wr => ∃ k : Nat, k ≤ n ∧ i = .int .i64 k ∧ OwnInts w wr v ((xs.take k).filter (fun x => !decide (x ∈ ys)))) (fun _ i _ => n - (intOf i).toNat)
  case atStart => exact ⟨0, Nat.zero_le _, rfl, OwnInts.nil w⟩
  case round =>
    obtain ⟨k, hk, rfl, hown⟩ := hrel
    by_cases hlt : k < n
    · have hl : k < xs.length := by rw [HN.out]; exact hlt
      obtain ⟨b, o, u, rfl, hb, hu, hcell⟩ := (hr.keep0 hown.2).at_ hlt
      obtain rfl := ints_at hu hl
      have hry := hr'.keep0 hown.2
      have hlen : ((xs.take k).filter (fun x => !decide (x ∈ ys))).length ≤ k := Nat.le_trans (List.length_filter_le _ _) (by simp; omega)
      have HT : Hid ((xs.take (k + 1)).filter (fun x => !decide (x ∈ ys)) = (xs.take k).filter (fun x => !decide (x ∈ ys)) ++ if xs[k] ∈ ys then [] else [xs[k]]) := by
        show _ = _
        rw [List.take_succ_eq_append_getElem hl, List.filter_append]
        by_cases h : xs[k] ∈ ys <;> simp [h]
      have hB := hown.2.size
      go_wp2_with (first
        | (go_at_call 60; refine (in_any A' n' c' ys _ _ hry (by unfold maxLen; omega)).mono ?_; rintro e w' ⟨rfl, rfl⟩)
        | (at_builtin; refine wpList_append_one rfl (.tmp 20) (.tmp 25) 28 rfl slice_int hown.1 rfl rfl (us := [.int .i64 xs[k]]) rfl (by simp [Value.oneCell']) hB (by omega) (by unfold maxLen; omega) ?_; intro v' w1 hown1 hgrow1 hat1))
      all_goals first
        | (have h : ¬ xs[k] ∈ ys := by simpa using (by assumption : (!decide (xs[k] ∈ ys)) = true)
           have R := hown.app hown1 hgrow1
           go_roundw
           case rel => exact ⟨k + 1, by omega, by go_num, by rw [HT.out, if_neg h]; exact R⟩
           case measure => simp [intOf]; omega)
        | (have h : xs[k] ∈ ys := by simpa using (by assumption : (!decide (xs[k] ∈ ys)) = false)
           go_roundw
           case rel => exact ⟨k + 1, by omega, by go_num, by rw [HT.out, if_pos h, List.append_nil]; exact hown⟩
           case measure => simp [intOf]; omega)
    · have H := Lib.hid hown.ret
      rw [List.take_of_length_le (by rw [HN.out]; omega)] at H
      clear hown
      go_wp2
      go_ret
      exact H.out

set_option maxRecDepth 100000 in
set_option maxHeartbeats 400000 in
theorem alive28 (w : World) : Calls Try.prog 20 #[] w fun e w' => e = .returned (.bool true) ∧ Keep [] w w' := by
  have hf : FlagsAt (w.alloc (.cells #[.int .u32 (0 : Int)] 27)) w.heap.size 0 := Blk.new w _ _
  have K0 : Keep [] w (w.alloc (.cells #[.int .u32 (0 : Int)] 27)) := (Keep.refl _ w).alloc _
  go_enter Try.func20, Try.ntmps20
  have e1 : flagE 6 = 0 := rfl
  have e2 : anyE 6 3 = 0 := rfl
  have e3 : everyE 6 3 = 270 := rfl
  go_wp2_with fail
  refine (fset_any w.heap.size 0 6 _ (by decide) (by decide) hf).mono ?_
  rintro e w1 ⟨rfl, hf1, k1⟩
  have hf1' : FlagsAt w1 w.heap.size 6 := hf1
  clear hf1
  have K1 : Keep [] w w1 := K0.trans k1 (by simp)
  clear K0 k1 hf
  go_wp2_with fail
  refine (fany_any w.heap.size 6 3 _ (by decide) (by decide) hf1').mono ?_
  rintro e w2 ⟨rfl, rfl⟩
  go_wp2_with fail
  refine (fevery_any w.heap.size 6 3 _ (by decide) (by decide) hf1').mono ?_
  rintro e w2 ⟨rfl, rfl⟩
  go_wp2_with fail
  refine (fall_any w.heap.size 6 _ hf1').mono ?_
  rintro e w2 ⟨rfl, rfl⟩
  go_wp2
  go_ret
  exact ⟨rfl, K1⟩

/-- s is the set of the numbers in h. -/
structure IsSet (s : Nat) (h : List Int) : Prop where
  lt : s < 4294967296
  mem : ∀ x : Int, x ∈ h ↔ ∃ n : Nat, n < 32 ∧ x = (n : Int) ∧ s.testBit n = true
  nodup : h.Nodup
theorem IsSet.nil : IsSet 0 [] := ⟨by decide, by simp, List.nodup_nil⟩
theorem mem_listN (s : Nat) (x : Int) : x ∈ listN s 32 ↔ ∃ n : Nat, n < 32 ∧ x = (n : Int) ∧ s.testBit n = true := by
  unfold listN
  simp only [List.mem_map, List.mem_filter, List.mem_range]
  constructor
  · rintro ⟨n, ⟨h1, h2⟩, rfl⟩; exact ⟨n, h1, rfl, h2⟩
  · rintro ⟨n, h1, rfl, h2⟩; exact ⟨n, ⟨h1, h2⟩, rfl⟩
theorem nodup_listN (s k : Nat) : (listN s k).Nodup := by
  unfold listN
  unfold List.Nodup
  rw [List.pairwise_map]
  exact (List.nodup_range.filter _).imp (fun h e => h (Int.ofNat.inj e))
theorem IsSet.list (s : Nat) (hs : s < 4294967296) : IsSet s (listN s 32) := ⟨hs, mem_listN s, nodup_listN s 32⟩
theorem IsSet.testBit {s : Nat} {h : List Int} (H : IsSet s h) (n : Nat) : s.testBit n = true ↔ n < 32 ∧ (n : Int) ∈ h := by
  constructor
  · intro hb
    have hn : n < 32 := by
      rcases Nat.lt_or_ge n 32 with h1 | h1
      · exact h1
      · have := Nat.testBit_lt_two_pow (x := s) (i := n) (Nat.lt_of_lt_of_le (show s < 2 ^ 32 from H.lt) (Nat.pow_le_pow_right (by decide) h1))
        simp [this] at hb
    exact ⟨hn, (H.mem _).2 ⟨n, hn, rfl, hb⟩⟩
  · rintro ⟨_, hm⟩
    obtain ⟨m, _, e, hb⟩ := (H.mem _).1 hm
    have : n = m := by omega
    rw [this]; exact hb
theorem IsSet.of {s : Nat} {h : List Int} (H : IsSet s h) : ofN h 32 = s := by
  apply Nat.eq_of_testBit_eq
  intro i
  rw [ofN_testBit, Bool.eq_iff_iff, H.testBit]
  simp
theorem IsSet.perm {s : Nat} {h : List Int} (H : IsSet s h) : h.Perm (listN s 32) :=
  (List.perm_ext_iff_of_nodup H.nodup (nodup_listN s 32)).2 (fun x => by rw [H.mem, mem_listN])
theorem IsSet.length {s : Nat} {h : List Int} (H : IsSet s h) : h.length = (listN s 32).length := H.perm.length_eq
theorem IsSet.le {s : Nat} {h : List Int} (H : IsSet s h) : h.length ≤ 32 := by rw [H.length]; exact listN_le s 32
theorem IsSet.zero {s : Nat} {h : List Int} (H : IsSet s h) : h.length = 0 ↔ s = 0 := by
  constructor
  · intro h0
    have : h = [] := List.eq_nil_of_length_eq_zero h0
    subst this
    rw [← H.of]; decide
  · rintro rfl
    rw [H.length]; decide
theorem IsSet.both {s l : Nat} {h x : List Int} (H : IsSet s h) (X : IsSet l x) : IsSet (s &&& l) (h.filter (fun y => decide (y ∈ x))) :=
  ⟨Nat.lt_of_le_of_lt Nat.and_le_left H.lt, fun y => by
    rw [List.mem_filter, H.mem]
    simp only [decide_eq_true_eq, X.mem, Nat.testBit_and, Bool.and_eq_true]
    constructor
    · rintro ⟨⟨n, h1, rfl, h2⟩, m, _, e, h3⟩
      have : n = m := by omega
      subst this
      exact ⟨n, h1, rfl, h2, h3⟩
    · rintro ⟨n, h1, rfl, h2, h3⟩
      exact ⟨⟨n, h1, rfl, h2⟩, n, h1, rfl, h3⟩, H.nodup.filter _⟩
theorem IsSet.without {s l : Nat} {h x : List Int} (H : IsSet s h) (X : IsSet l x) : IsSet (diffN s l) (h.filter (fun y => !decide (y ∈ x))) :=
  ⟨diffN_lt _ _ H.lt, fun y => by
    rw [List.mem_filter, H.mem]
    simp only [Bool.not_eq_true', decide_eq_false_iff_not, X.mem, diffN_testBit _ _ _ H.lt X.lt, Bool.and_eq_true]
    constructor
    · rintro ⟨⟨n, h1, rfl, h2⟩, h3⟩
      refine ⟨n, h1, rfl, h2, ?_⟩
      rcases hb : l.testBit n
      · rfl
      · exact absurd ⟨n, h1, rfl, hb⟩ h3
    · rintro ⟨n, h1, rfl, h2, h3⟩
      refine ⟨⟨n, h1, rfl, h2⟩, ?_⟩
      rintro ⟨m, _, e, h4⟩
      have : n = m := by omega
      subst this
      simp [h3] at h4, H.nodup.filter _⟩
theorem IsSet.join {s l : Nat} {h x : List Int} (H : IsSet s h) (X : IsSet l x) : IsSet (s ||| l) (h ++ x.filter (fun y => !decide (y ∈ h))) :=
  ⟨Nat.or_lt_two_pow (n := 32) H.lt X.lt, fun y => by
    rw [List.mem_append, List.mem_filter]
    simp only [Bool.not_eq_true', decide_eq_false_iff_not]
    have e : (y ∈ h ∨ y ∈ x ∧ y ∉ h) ↔ (y ∈ h ∨ y ∈ x) := by
      by_cases hy : y ∈ h <;> simp [hy]
    rw [e, H.mem, X.mem]
    simp only [Nat.testBit_or, Bool.or_eq_true]
    constructor
    · rintro (⟨n, h1, rfl, h2⟩ | ⟨n, h1, rfl, h2⟩)
      · exact ⟨n, h1, rfl, .inl h2⟩
      · exact ⟨n, h1, rfl, .inr h2⟩
    · rintro ⟨n, h1, rfl, h2 | h2⟩
      · exact .inl ⟨n, h1, rfl, h2⟩
      · exact .inr ⟨n, h1, rfl, h2⟩, by
    rw [List.nodup_append]
    refine ⟨H.nodup, X.nodup.filter _, ?_⟩
    intro a ha b hb e
    subst e
    rw [List.mem_filter] at hb
    simp [ha] at hb⟩
theorem listN_filter (s l k : Nat) : listN (s &&& l) k = (listN l k).filter (fun x => s.testBit x.toNat) := by
  unfold listN
  rw [List.filter_map, List.filter_filter]
  congr 1
  apply List.filter_congr
  intro n _
  simp [Nat.testBit_and]
theorem IsSet.whole {s l : Nat} {h x : List Int} (H : IsSet s h) (X : IsSet l x) : (h.filter (fun y => decide (y ∈ x))).length = x.length ↔ s &&& l = l := by
  rw [(H.both X).length, X.length]
  constructor
  · intro hl
    have hs : (listN (s &&& l) 32).Sublist (listN l 32) := by rw [listN_filter]; exact List.filter_sublist
    have he := hs.eq_of_length hl
    rw [← (IsSet.list (s &&& l) (Nat.lt_of_le_of_lt Nat.and_le_left H.lt)).of, he, (IsSet.list l X.lt).of]
  · intro e; rw [e]

end Go.Proofs.Ytgonnddgljgghaa
