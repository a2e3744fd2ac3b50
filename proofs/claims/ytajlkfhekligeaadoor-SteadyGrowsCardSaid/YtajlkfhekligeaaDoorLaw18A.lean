/- Layer 18: the chapter's example; a set of an image's tasks. Condition: the table of math/bits lies where the program's text lays it. -/
import Derived.Test.YtajlkfhekligeaaDoorStLaw
import Derived.Test.YtajlkfhekligeaaDoorImgRight
namespace Go.Proofs.YtajlkfhekligeaaDoor
open Go.RowKit

/-- An image that may be has small numbers. -/
theorem small_of {x : Img} (h : (chkImg x).2 = 0) : Small x := by
  unfold chkImg at h
  by_cases h1 : inR x.res 0 8 = false
  · rw [if_pos h1] at h; cases h
  rw [if_neg h1] at h
  by_cases h2 : inR x.tasks.length 1 16 = false
  · rw [if_pos h2] at h; cases h
  rw [if_neg h2] at h
  have hn : 1 ≤ x.tasks.length ∧ x.tasks.length ≤ 16 := by
    have : inR x.tasks.length 1 16 = true := by simpa using h2
    unfold inR at this; simp at this; omega
  cases hb : firstBad (fun _ t => tskOk t x.res) 0 x.tasks with
  | some i => rw [hb] at h; cases h
  | none =>
    have key : ∀ (l : List Tsk) (i : Nat), firstBad (fun _ t => tskOk t x.res) i l = none → ∀ t ∈ l, tskOk t x.res = true := by
      intro l
      induction l with
      | nil => intro i _ t ht; simp at ht
      | cons a l ih =>
        intro i hf t ht
        rw [firstBad] at hf
        by_cases ho : tskOk a x.res = true
        · rw [if_pos ho] at hf
          rcases List.mem_cons.1 ht with rfl | ht
          · exact ho
          · exact ih (i + 1) hf t ht
        · rw [if_neg ho] at hf; cases hf
    have ok := key x.tasks 0 hb
    have lonb : ∀ (cost res : Int) (l : List Int) (r : Nat), 0 ≤ cost → lonOk cost res r l = true → ∀ z ∈ l, 0 ≤ z ∧ z ≤ cost := by
      intro cost res l
      induction l with
      | nil => intro r _ _ z hz; simp at hz
      | cons a l ih =>
        intro r hc hl z hz
        rw [lonOk, Bool.and_eq_true] at hl
        rcases List.mem_cons.1 hz with rfl | hz
        · have := hl.1
          unfold inR at this
          simp at this
          split at this <;> omega
        · exact ih (r + 1) hc hl.2 z hz
    have parts : ∀ t ∈ x.tasks, (1 ≤ t.per ∧ t.per ≤ 4096) ∧ (1 ≤ t.ded ∧ t.ded ≤ t.per) ∧ (1 ≤ t.cost ∧ t.cost ≤ t.ded) ∧ ∀ z ∈ t.lon, 0 ≤ z ∧ z ≤ t.cost := by
      intro t ht
      have := ok t ht
      unfold tskOk at this
      simp only [Bool.and_eq_true] at this
      obtain ⟨⟨⟨a, b⟩, c⟩, d⟩ := this
      unfold inR at a b c
      simp at a b c
      exact ⟨a, b, c, lonb t.cost x.res t.lon 0 (by omega) d⟩
    refine ⟨hn.2, fun t ht z hz => ?_, fun t ht => ?_, fun t ht => ?_, fun t ht => ?_⟩
    · obtain ⟨a, b, c, d⟩ := parts t ht; have := d z hz; omega
    · obtain ⟨a, b, c, d⟩ := parts t ht; omega
    · obtain ⟨a, b, c, d⟩ := parts t ht; omega
    · obtain ⟨a, b, c, d⟩ := parts t ht; omega
theorem pos_of {x : Img} (h : (chkImg x).2 = 0) : 1 ≤ x.tasks.length := by
  unfold chkImg at h
  by_cases h1 : inR x.res 0 8 = false
  · rw [if_pos h1] at h; cases h
  rw [if_neg h1] at h
  by_cases h2 : inR x.tasks.length 1 16 = false
  · rw [if_pos h2] at h; cases h
  have : inR x.tasks.length 1 16 = true := by simpa using h2
  unfold inR at this; simp at this; omega

/-- The chapter's example. -/
def ex18 : Img := ⟨0, [⟨10, 10, 2, [0, 0, 0, 0, 0, 0, 0, 0]⟩, ⟨20, 20, 5, [0, 0, 0, 0, 0, 0, 0, 0]⟩], [⟨3, []⟩], []⟩
def ex18V (B : Nat) : ImgV := ⟨some ⟨B, 0, none⟩, 2, some ⟨B + 1, 0, none⟩, 1, none, 0, [(none, 0)]⟩
theorem ex18_small : Small ex18 := ⟨by simp [ex18], by simp [ex18], by simp [ex18], by simp [ex18], by simp [ex18]⟩
theorem ex18_at {w : World} {B : Nat} (h1 : Blk w B 39 (ex18.tasks.flatMap tskCells).toArray) (h2 : Blk w (B + 1) 53 #[.int .u32 3, .slice none 0 0]) : ImgAt w (ex18V B) ex18 :=
  ⟨⟨by simp [ex18], by simp [ex18], by simp [ex18], by simp [ex18]⟩, rfl, ⟨rfl, fun _ => ⟨B, 0, rfl, h1.lt, fun j u hu => by rw [Nat.zero_add]; exact h1.at_ hu⟩⟩,
    ⟨rfl, fun _ => ⟨B + 1, 0, rfl, h2.lt, fun j u hu => by rw [Nat.zero_add]; exact Blk.at_ (l := [.int .u32 3, .slice none 0 0]) h2 hu⟩⟩, Reads.none_, fun i h h' => by
    have : i = 0 := by simp [ex18] at h; omega
    subst this
    exact Reads.none_, by simp [ex18, maxLen], by simp [ex18, maxLen], by simp [ex18, maxLen], by simp [ex18, maxLen]⟩
theorem ex18_mode : (modeM ex18 3).rows = [⟨0, 0, 2⟩, ⟨1, 0, 7⟩] ∧ (modeM ex18 3).at_ = 0 ∧ (modeM ex18 3).ok = true := ⟨by kernel_rfl, by kernel_rfl, by kernel_rfl⟩
theorem ex18_busy : busyM ex18 3 = some 16 := by kernel_rfl

set_option maxRecDepth 100000 in
set_option maxHeartbeats 2000000 in
theorem alive18 (w : World) (hT : Tab w) : Calls Tryd.prog 26 #[] w fun e w' => e = .returned (.bool true) ∧ Keep [] w w' := by
  have b1 := ((Blk.new w 39 (ex18.tasks.flatMap tskCells).toArray).alloc (.cells #[.int .u32 3, .slice none 0 0] 53)).alloc (.cells (imgCells (ex18V w.heap.size) ex18).toArray 26)
  have b2 := (Blk.new1 w (.cells (ex18.tasks.flatMap tskCells).toArray 39) 53 #[.int .u32 3, .slice none 0 0]).alloc (.cells (imgCells (ex18V w.heap.size) ex18).toArray 26)
  have b3 := Blk.new2 w (.cells (ex18.tasks.flatMap tskCells).toArray 39) (.cells #[.int .u32 3, .slice none 0 0] 53) 26 (imgCells (ex18V w.heap.size) ex18).toArray
  have K0 := (((Keep.refl [] w).alloc (.cells (ex18.tasks.flatMap tskCells).toArray 39)).alloc (.cells #[.int .u32 3, .slice none 0 0] 53)).alloc (.cells (imgCells (ex18V w.heap.size) ex18).toArray 26)
  obtain ⟨W0, hW0⟩ : ∃ W0, ((w.alloc (.cells (ex18.tasks.flatMap tskCells).toArray 39)).alloc (.cells #[.int .u32 3, .slice none 0 0] 53)).alloc (.cells (imgCells (ex18V w.heap.size) ex18).toArray 26) = W0 := ⟨_, rfl⟩
  rw [hW0] at b1 b2 b3 K0
  have hW : Hid (((w.alloc (.cells #[.int .i64 10, .int .i64 10, .int .i64 2, .int .i64 0, .int .i64 0, .int .i64 0, .int .i64 0, .int .i64 0, .int .i64 0, .int .i64 0, .int .i64 0, .int .i64 20, .int .i64 20, .int .i64 5, .int .i64 0, .int .i64 0, .int .i64 0, .int .i64 0, .int .i64 0, .int .i64 0, .int .i64 0, .int .i64 0] 39)).alloc (.cells #[.int .u32 3, .slice none 0 0] 53)).alloc
      (.cells #[.int .i64 0, .slice (some ⟨w.heap.size, 0, none⟩) 2 2, .slice (some ⟨w.heap.size + 1, 0, none⟩) 1 1, .slice none 0 0] 26) = W0) := hW0
  clear hW0
  have HI := Lib.hid (ex18_at b1 b2)
  have HB3 := Lib.hid b3
  have HK := Lib.hid K0
  have HMo := fun W hk => Lib.hid (mode_any (ex18V w.heap.size) ex18 3 W (hT.keep0 (K0.then hk)) (HI.out.keep0 hk) (by decide) ex18_small)
  have HBu := fun W hk => Lib.hid (busy_any (ex18V w.heap.size) ex18 3 W (hT.keep0 (K0.then hk)) (HI.out.keep0 hk) (by decide))
  rw [ex18_busy] at HBu
  have HM0 := Lib.hid ex18_mode
  have HIL : Hid ((imgCells (ex18V w.heap.size) ex18).length = 4) := show _ = _ from rfl
  clear b1 b2 b3 K0
  generalize modeM ex18 3 = m at *
  go_enter Tryd.func26, Tryd.ntmps26
  go_wp2_with (refine stop_at 14 rfl ?_)
  constructor
  rw [hW.out]
  clear hW
  refine wpList_load_agg rfl 26 (.tmp 1) rfl rfl (cs := imgCells (ex18V w.heap.size) ex18) agg_image HB3.out.cellsAt ?_
  generalize ex18V w.heap.size = ev at *
  generalize ex18 = ex at *
  generalize imgCells ev ex = il at *
  go_wp2_with fail
  refine (HMo _ (Keep.refl _ _)).out.mono ?_
  rintro e w1 ⟨A, c, rfl, o1, k1⟩
  obtain ⟨rows, ia, ok⟩ := m
  obtain ⟨hr, hi, ho⟩ := HM0.out
  have hr : rows = _ := hr
  have hi : ia = 0 := hi
  have ho : ok = true := ho
  subst hr hi ho
  have hcs := Lib.hid ((HB3.out.keep0 k1).cellsAt)
  have HK1 := Lib.hid k1
  have HO1 := Lib.hid o1
  clear k1 o1 HM0 hT
  go_wp2_with (refine wpList_load_agg rfl 26 (.tmp 1) rfl rfl (cs := il) (by rw [HIL.out]; exact agg_image) hcs.out ?_)
  refine (HBu _ HK1.out).out.mono ?_
  rintro e w2 ⟨rfl, k2⟩
  rw [numRes_some]
  have o2 := own_keep0 HO1.out k2
  obtain ⟨g, cap, hv, _, hgl⟩ := o2.form (by simp)
  have e1 : A = some ⟨g, 0, none⟩ ∧ c = cap := by
    injection hv with h1 h2 h3
    exact ⟨h1, h3⟩
  obtain ⟨rfl, rfl⟩ := e1
  have c0 : w2.cell? ⟨g, 2, none⟩ = some (.int .i64 2) := o2.cellAt 2 (by simp)
  have c1 : w2.cell? ⟨g, 5, none⟩ = some (.int .i64 7) := o2.cellAt 5 (by simp)
  have HK2 := Lib.hid (HK.out.then (HK1.out.then k2))
  clear k2 o2 hv hgl
  go_wp2
  go_ret
  exact ⟨rfl, HK2.out⟩

/-- The tasks of a set that an image has. -/
def withinK (s : Nat) : Nat → Nat
  | 0 => 0
  | k + 1 => if has10 s (k : Int) = true then withinK s k ||| 2 ^ k else withinK s k
theorem withinK_lt (s : Nat) : ∀ k, k ≤ 32 → withinK s k < 4294967296
  | 0, _ => by simp [withinK]
  | k + 1, h => by
    have ih := withinK_lt s k (by omega)
    rw [withinK]
    split
    · have h2 : 2 ^ k < 2 ^ 32 := Nat.pow_lt_pow_right (by decide) (by omega)
      exact Nat.or_lt_two_pow (n := 32) ih h2
    · exact ih
theorem withinK_bit (s i : Nat) : ∀ k, k ≤ 32 → (withinK s k).testBit i = (decide (i < k) && s.testBit i)
  | 0, _ => by simp [withinK]
  | k + 1, h => by
    have ih := withinK_bit s i k (by omega)
    rw [withinK, has10_nat (by omega)]
    by_cases e : i = k
    · subst e
      have h0 : decide (i < i) = false := decide_eq_false (by omega)
      have h1 : decide (i < i + 1) = true := decide_eq_true (by omega)
      rw [h0, Bool.false_and] at ih
      rw [h1, Bool.true_and]
      split
      · rename_i hb
        rw [Nat.testBit_or, Nat.testBit_two_pow, decide_eq_true rfl, Bool.or_true, hb]
      · rename_i hb
        rw [ih]; simpa using hb
    · have h1 : decide (i < k + 1) = decide (i < k) := by rw [Bool.eq_iff_iff]; simp; omega
      rw [h1, ← ih]
      split
      · rw [Nat.testBit_or, Nat.testBit_two_pow, decide_eq_false (fun e2 => e e2.symm), Bool.or_false]
      · rfl
set_option maxRecDepth 100000 in
set_option maxHeartbeats 1000000 in
theorem within_any (v : ImgV) (x : Img) (s : Nat) (w : World) (hs : s < 4294967296) (hn : x.tasks.length ≤ 16) :
    Calls Tryd.prog 23 #[.agg (imgCells v x).toArray, .int .u32 (s : Int)] w fun e w' => e = .returned (.int .u32 (withinK s x.tasks.length : Int)) ∧ Keep [] w w' := by
  obtain ⟨W0, hW0⟩ : ∃ W0, w.alloc (.cells (imgCells v x).toArray 26) = W0 := ⟨_, rfl⟩
  have b0 : Blk W0 w.heap.size 26 (imgCells v x).toArray := by rw [← hW0]; exact img_box w v x
  have K0 : Keep [] w W0 := by rw [← hW0]; exact (Keep.refl [] w).alloc _
  have HI1 : Hid (∀ w', Keep [] W0 w' → w'.cell? ⟨w.heap.size, 1, none⟩ = some (.slice v.ta x.tasks.length v.tc)) := fun w' hk => img_c1 (b0.keep0 hk)
  have HH := fun (i : Int) w => Lib.hid (has10_any s i w hs)
  clear b0
  generalize imgCells v x = ic at *
  generalize hlt : x.tasks.length = n at *
  have HW := Lib.hid hW0
  clear hlt hW0
  go_enter Tryd.func23, Tryd.ntmps23
  go_wp2_with (rw [HW.out])
  go_loopw [5, 6] (fun o i wr => ∃ k : Nat, k ≤ n ∧ i = .int .i64 k ∧ o = .int .u32 (withinK s k : Int) ∧ Keep [] W0 wr) (fun _ i _ => n - (intOf i).toNat)
  case atStart => exact ⟨0, Nat.zero_le _, rfl, rfl, by first | (rw [HW.out]; exact Keep.refl _ _) | exact Keep.refl _ _⟩
  case round =>
    obtain ⟨k, hk, rfl, rfl, hK⟩ := hrel
    have c1 := HI1.out wr hK
    have HK := Lib.hid hK
    clear hK
    by_cases hlt : k < n
    · have hHk := HH (k : Int)
      have hwl := withinK_lt s k (by omega)
      have hWi := fun w => Lib.hid (with_any (withinK s k) (k : Int) w hwl)
      have hbn : Hid (bitN (k : Int) = 2 ^ k) := bitN_nat (by omega)
      have hst : Hid (withinK s (k + 1) = if has10 s (k : Int) = true then withinK s k ||| 2 ^ k else withinK s k) := rfl
      generalize withinK s k = o at *
      cases hb : has10 s (k : Int) with
      | false =>
        have HX : Hid (withinK s (k + 1) = o) := by show _ = _; rw [hst.out, hb]; rfl
        go_wp2_with fail
        refine (hHk _).out.mono ?_
        rintro e w' ⟨rfl, rfl⟩
        rw [hb]
        go_wp2
        go_roundw
        case rel => exact ⟨k + 1, by omega, by go_num, by rw [HX.out], HK.out⟩
        case measure => simp [intOf] <;> omega
      | true =>
        have HX : Hid (withinK s (k + 1) = o ||| 2 ^ k) := by show _ = _; rw [hst.out, hb, if_pos rfl]
        go_wp2_with fail
        refine (hHk _).out.mono ?_
        rintro e w' ⟨rfl, rfl⟩
        rw [hb]
        go_wp2_with fail
        refine (hWi _).out.mono ?_
        rintro e w' ⟨rfl, rfl⟩
        rw [hbn.out]
        go_wp2
        go_roundw
        case rel => exact ⟨k + 1, by omega, by go_num, by rw [HX.out], HK.out⟩
        case measure => simp [intOf] <;> omega
    · obtain rfl : k = n := by omega
      go_wp2
      go_ret
      exact ⟨rfl, K0.then HK.out⟩
end Go.Proofs.YtajlkfhekligeaaDoor
