/- How long those behind a task may hold what lets them go ahead of it (steady.Block). Condition: the table of math/bits lies where the program's text lays it; the numbers are small. -/
import Derived.Test.YteflgdnekflbbaaDoorCeilOf
namespace Go.Proofs.YteflgdnekflbbaaDoor
open Go.RowKit
attribute [local go_sem] Oper.semAt_some noOut_normal

/-- The numbers of an image that may be are small. -/
structure Small (x : Img) : Prop where
  n : x.tasks.length ≤ 16
  lon : ∀ t ∈ x.tasks, ∀ z ∈ t.lon, 0 ≤ z ∧ z ≤ 4096
  cost : ∀ t ∈ x.tasks, 1 ≤ t.cost ∧ t.cost ≤ 4096
  ded : ∀ t ∈ x.tasks, 1 ≤ t.ded ∧ t.ded ≤ 4096
  per : ∀ t ∈ x.tasks, 1 ≤ t.per ∧ t.per ≤ 4096
def lonStep (l : List Tsk) (r : Nat) (m : Int) (k : Nat) : Int := match l[k]? with | some t => max m (t.lon.getD r 0) | none => m
def longIn (l : List Tsk) (r : Nat) (ks : List Nat) : Int := ks.foldl (lonStep l r) 0
def blockIn (l : List Tsk) (ks : List Nat) (rs : List Nat) : Int := rs.foldl (fun a r => a + longIn l r ks) 0
/-- How long those of a set behind a task may hold what has a ceiling of the task or ahead. -/
def blockM (l : List Tsk) (hold : Nat) (tab : List Int) (task : Int) : Int := blockIn l (bitsL (aboveN hold task)) (bitsL (overK tab task 8))
theorem longIn_snoc (l : List Tsk) (r : Nat) (ks : List Nat) (k : Nat) : longIn l r (ks ++ [k]) = lonStep l r (longIn l r ks) k := by simp [longIn]
theorem blockIn_snoc (l : List Tsk) (ks rs : List Nat) (r : Nat) : blockIn l ks (rs ++ [r]) = blockIn l ks rs + longIn l r ks := by simp [blockIn]
theorem lonStep_le {x : Img} (h : Small x) (r : Nat) (m : Int) (k : Nat) (h0 : 0 ≤ m) (h1 : m ≤ 4096) : 0 ≤ lonStep x.tasks r m k ∧ lonStep x.tasks r m k ≤ 4096 := by
  unfold lonStep
  cases hk : x.tasks[k]? with
  | none => exact ⟨h0, h1⟩
  | some t =>
    have ht := List.mem_of_getElem? hk
    have hz : 0 ≤ t.lon.getD r 0 ∧ t.lon.getD r 0 ≤ 4096 := by
      rw [List.getD_eq_getElem?_getD]
      cases hr : t.lon[r]? with
      | none => exact ⟨by simp, by simp⟩
      | some z => exact h.lon t ht z (List.mem_of_getElem? hr)
    show 0 ≤ max m _ ∧ max m _ ≤ 4096
    omega
theorem long_from {x : Img} (h : Small x) (r : Nat) : ∀ (ks : List Nat) (m : Int), 0 ≤ m → m ≤ 4096 → 0 ≤ ks.foldl (lonStep x.tasks r) m ∧ ks.foldl (lonStep x.tasks r) m ≤ 4096
  | [], m, h0, h1 => ⟨h0, h1⟩
  | k :: ks, m, h0, h1 => by
    have := lonStep_le h r m k h0 h1
    exact long_from h r ks _ this.1 this.2
theorem longIn_le {x : Img} (h : Small x) (r : Nat) (ks : List Nat) : 0 ≤ longIn x.tasks r ks ∧ longIn x.tasks r ks ≤ 4096 := long_from h r ks 0 (by omega) (by omega)
theorem block_from {x : Img} (h : Small x) (ks : List Nat) : ∀ (rs : List Nat) (a : Int), a ≤ rs.foldl (fun a r => a + longIn x.tasks r ks) a ∧ rs.foldl (fun a r => a + longIn x.tasks r ks) a ≤ a + 4096 * rs.length
  | [], a => by simp
  | r :: rs, a => by
    have h1 := longIn_le h r ks
    have h2 := block_from h ks rs (a + longIn x.tasks r ks)
    rw [List.foldl_cons, List.length_cons]
    generalize rs.foldl (fun a r => a + longIn x.tasks r ks) (a + longIn x.tasks r ks) = z at *
    generalize longIn x.tasks r ks = y at *
    push_cast
    omega
theorem blockIn_le {x : Img} (h : Small x) (ks rs : List Nat) : 0 ≤ blockIn x.tasks ks rs ∧ blockIn x.tasks ks rs ≤ 4096 * rs.length := by
  have := block_from h ks rs 0
  unfold blockIn
  omega
theorem over_lt8 {l : List Int} {task : Int} {r : Nat} (h : r ∈ bitsL (overK l task 8)) : r < 8 := by
  rw [bitsL_mem, overK_bit] at h
  have := h.2
  simp at this
  exact this.1

set_option maxRecDepth 100000 in
set_option maxHeartbeats 2000000 in
theorem block_any (v : ImgV) (x : Img) (s : Nat) (T : List Int) (task : Int) (w : World) (hT : Tab w) (h : ImgAt w v x) (hs : s < 4294967296) (hT8 : T.length = 8) (hx : Small x) :
    Calls Tryd.prog 58 #[.agg (imgCells v x).toArray, .int .u32 (s : Int), .agg (iv T).toArray, .int .i64 task] w fun e w' => e = .returned (.int .i64 (blockM x.tasks s T task)) ∧ Keep [] w w' := by
  rw [← callsIn_wide (n := 9)]
  refine callsIn_of_wp_marks Tryd.func58 rfl trivial ?_ rfl
  simp only [Tryd.ntmps58, List.size_toArray, List.length_cons, List.length_nil, Nat.reduceAdd, Nat.reduceSub, Array.replicate_succ, Array.replicate_zero, List.push_toArray, List.append_toArray, List.nil_append, List.cons_append]
  have HL := Lib.hid h.lt
  have HI := Lib.hid h
  have HTb := Lib.hid hT
  have HSm := Lib.hid hx
  have hI1 : Hid (∀ g W, Blk W g 26 (imgCells v x).toArray → W.cell? ⟨g, 1, none⟩ = some (.slice v.ta x.tasks.length v.tc)) := fun g W hb => img_c1 hb
  obtain ⟨W0, hW0⟩ : ∃ W0, (((w.alloc (.cells (imgCells v x).toArray 26)).alloc (.cells #[.int .u32 (s : Int)] 36)).alloc (.cells (iv T).toArray 104)).alloc (.cells #[.int .i64 task] 3) = W0 := ⟨_, rfl⟩
  have b0 : Blk W0 w.heap.size 26 (imgCells v x).toArray := by rw [← hW0]; exact (((Blk.new _ _ _).alloc _).alloc _).alloc _
  have b1 : Blk W0 (w.heap.size + 1) 36 #[.int .u32 (s : Int)] := by rw [← hW0]; exact ((Blk.new1 _ _ _ _).alloc _).alloc _
  have b2 : Blk W0 (w.heap.size + 2) 104 (iv T).toArray := by rw [← hW0]; exact (Blk.new2 _ _ _ _ _).alloc _
  have b3 : Blk W0 (w.heap.size + 3) 3 #[.int .i64 task] := by rw [← hW0]; exact Blk.new3 _ _ _ _ _ _
  have K0 : Keep [] w W0 := by rw [← hW0]; exact ((((Keep.refl _ w).alloc _).alloc _).alloc _).alloc _
  have hsz : W0.heap.size = w.heap.size + 4 := by rw [← hW0]; simp
  have HOv := Lib.hid (over_any T task W0 hT8)
  have HA : Hid (AggOf Tryd.prog 104 (iv T).length) := by show AggOf _ _ _; rw [iv_len, hT8]; exact agg_tab
  have HTC := Lib.hid b2.cellsAt
  have cT := b3.cell 0
  simp at cT
  clear h hT hx hT8
  generalize hcs : (imgCells v x).toArray = cs at *
  generalize iv T = tc at *
  generalize hov : overK T task 8 = ov at *
  have HW := Lib.hid hW0
  clear hW0
  gi_wp2_with (first
    | (rw [HW.out]; refine wpListIn_agg rfl 104 (.tmp 6) rfl rfl (cs := tc) HA.out HTC.out ?_)
    | (refine ⟨trivial, ?_⟩; gi_at_call 68; refine (callsIn_wide.2 HOv.out).mono ?_; rintro e w1 ⟨rfl, k1⟩)
    | (refine ⟨trivial, ?_⟩; gi_at_call 40; refine (callsIn_wide.2 (maskAll_any ov _)).mono ?_; rintro e w' ⟨rfl, rfl⟩))
  have k1' : Keep [] W0 w1 := k1
  obtain ⟨W3, hW3⟩ : ∃ W3, (w1.alloc (.cells #[.int .i64 0] 3)).alloc (.cells #[.int .u32 (ov : Int)] 36) = W3 := ⟨_, rfl⟩
  have d10 : Blk W3 w1.heap.size 3 #[.int .i64 0] := by rw [← hW3]; exact (Blk.new _ _ _).alloc _
  have d18 : Blk W3 (w1.heap.size + 1) 36 #[.int .u32 (ov : Int)] := by rw [← hW3]; exact Blk.new1 _ _ _ _
  have k3 : Keep [] W0 W3 := by rw [← hW3]; exact (k1'.alloc _).alloc _
  have sz3 : W3.heap.size = w1.heap.size + 2 := by rw [← hW3]; simp
  have K3 := K0.then k3
  have c0 := b0.keep0 k3
  have c1 := b1.keep0 k3
  have c3 := b3.keep0 k3
  have hTW := HTb.out.keep0 K3
  have hz1 := k1'.size
  have hzt := HTb.out.1
  simp only [hW3]
  obtain ⟨g10, hg⟩ : ∃ g10, w1.heap.size = g10 := ⟨_, rfl⟩
  simp only [hg] at *
  have hzs : w.heap.size + 3 < g10 ∧ W3.heap.size = g10 + 2 := ⟨by omega, sz3⟩
  clear hW3 k3 k1 k1' b0 b1 b2 b3 K0 hz1 hg HW HOv HA HTC cT
  have hov32 : ov < 4294967296 := by rw [← hov]; have := overK_lt T task 8 (by omega); omega
  have hr8 : Hid (∀ r ∈ bitsL ov, r < 8) := fun r hr => over_lt8 (by rw [hov]; exact hr)
  have hlo := bitsL_le ov
  have HLo := Lib.hid hlo
  refine wpIn_rangeFunc_ownH (F := Fence.wide) (n := 9) (ps := #[19]) rfl (by omega) (gf := 56) (lb := #[.pointer (some ⟨g10 + 1, 0, none⟩)]) rfl trivial (enters_of Tryd.func56 (by kernel_rfl) rfl)
    (maskAll1_seq 8 ov (g10 + 1) W3 (by omega) d18 hov32 hTW).sub Same.trans (Same.turn (by simp; omega)) (Below.refl _ _) (fun _ => rfl)
    (fun pre W => Blk W g10 3 #[.int .i64 (blockIn x.tasks (bitsL (aboveN s task)) (outs pre))] ∧ Keep [g10] W3 W)
    (fun _ _ _ => False)
    ?hI ?hIx ⟨d10, Keep.refl _ _⟩
    (fun i a' W => ∃ Bx, W3.heap.size ≤ Bx ∧ Blk W Bx 3 #[.int .i64 (i.1 : Int)] ∧ a' = { tmps := #[.agg cs, .int .u32 (s : Int), .agg tc.toArray, .int .i64 task, .pointer (some ⟨w.heap.size, 0, none⟩), .pointer (some ⟨w.heap.size + 1, 0, none⟩), .pointer (some ⟨w.heap.size + 2, 0, none⟩), .pointer (some ⟨w.heap.size + 3, 0, none⟩),
      .int .i64 0, .int .u32 (ov : Int), .pointer (some ⟨g10, 0, none⟩), .pointer (some ⟨Bx, 0, none⟩), undef, undef, .agg tc.toArray, .int .i64 task, .int .u32 (ov : Int), .int .u32 (ov : Int), .func (.func 56) #[] #[.pointer (some ⟨g10 + 1, 0, none⟩)], .int .i64 (i.1 : Int),
      undef, undef, undef, undef, undef, undef, undef, undef, undef, undef, undef, undef, undef, undef, undef, undef, undef, undef, undef, undef, undef, undef, undef, undef], defers := [] }) ?hAx ?assign ?body ?done ?stop
  case hI =>
    intro pre X Y row hs hg hr
    exact ⟨blk_own (β := Unit) _ _ (fun _ => _) () X Y row hs.1 hg hr, keep_own (β := Unit) (Nat.le_refl _) () X Y row hs.2 hg hr⟩
  case hIx => exact fun _ _ _ _ _ hs _ _ => hs
  case hAx =>
    intro i a' _ X Y row hs hg hr
    obtain ⟨Bx, h1, h2, h3⟩ := hs
    exact ⟨Bx, h1, blk_own (β := Unit) _ _ (fun _ => _) () X Y row h2 hg hr, h3⟩
  case assign =>
    rintro l pre i W K ⟨h1, h2⟩ hK
    have hz := h2.size
    simp only [encN]
    gi_wp2
    have kA := (Keep.refl [] W).alloc (.cells #[.int .i64 (i.1 : Int)] 3)
    exact hK _ _ kA.from0 (Same.keep kA (fun y hy => ⟨by simp only [List.mem_cons, List.not_mem_nil, or_false] at hy; rcases hy with rfl | rfl <;> omega, by simp⟩)) ⟨h1.keep0 kA, h2.then kA⟩ ⟨W.heap.size, hz, Blk.new _ _ _, rfl⟩
  case body =>
    rintro l pre ri a' W hl ⟨r, hr⟩ ⟨hb, hK⟩ ⟨Bx, hBx, hbx, rfl⟩ hlt
    obtain ⟨ri, hri⟩ := ri
    have hri8 := hr8.out ri hri
    have cs1 := (c1.keep hK (by simp; omega)).cell 0
    have cs3 := (c3.keep hK (by simp; omega)).cell 0
    simp at cs1 cs3
    have hAb := fun w => Lib.hid (above_any s task w hs)
    have hal := aboveN_lt task hs
    generalize hab : aboveN s task = ab at *
    gi_wp2_with (refine stopIn_at 20 rfl ?_)
    constructor
    obtain ⟨V0, hV0⟩ : ∃ V0, W.alloc (.cells #[.int .i64 0] 3) = V0 := ⟨_, rfl⟩
    have kV : Keep [] W V0 := by rw [← hV0]; exact (Keep.refl _ W).alloc _
    have bL : Blk V0 W.heap.size 3 #[.int .i64 0] := by rw [← hV0]; exact Blk.new _ _ _
    have szV : V0.heap.size = W.heap.size + 1 := by rw [← hV0]; simp
    have q1 := (kV.cell (p := ⟨w.heap.size + 1, 0, none⟩) (World.block_lt_of_cell? _ _ cs1) (by simp)).trans cs1
    have q3 := (kV.cell (p := ⟨w.heap.size + 3, 0, none⟩) (World.block_lt_of_cell? _ _ cs3) (by simp)).trans cs3
    change wpListIn _ _ _ _ _ _ _ (W.alloc (.cells #[.int .i64 0] 3))
    simp only [hV0]
    clear hV0 cs1 cs3
    gi_wp2_with (first
      | (refine ⟨trivial, ?_⟩; gi_at_call 69; refine ((callsIn_wide.2 (hAb _).out).inRound l).mono ?_; rintro e w' ⟨rfl, rfl⟩)
      | (refine ⟨trivial, ?_⟩; gi_at_call 40; refine ((callsIn_wide.2 (maskAll_any ab _)).inRound l).mono ?_; rintro e w' ⟨rfl, rfl⟩))
    obtain ⟨V1, hV1⟩ : ∃ V1, V0.alloc (.cells #[.int .u32 (ab : Int)] 36) = V1 := ⟨_, rfl⟩
    have kV1 : Keep [] W V1 := by rw [← hV1]; exact kV.alloc _
    have bS : Blk V1 (W.heap.size + 1) 36 #[.int .u32 (ab : Int)] := by rw [← hV1, ← szV]; exact Blk.new _ _ _
    have bL1 : Blk V1 W.heap.size 3 #[.int .i64 0] := by rw [← hV1]; exact bL.alloc _
    have szV1 : V1.heap.size = W.heap.size + 2 := by rw [← hV1]; simp [szV]
    have hr' : V1.heap[l]? = some (.loop r) := (kV1.block l (Array.getElem?_eq_some_iff.1 hr).1 (by simp)).trans hr
    have hbx' := hbx.keep0 kV1
    have hb' := hb.keep0 kV1
    have KW : Keep [] w W := K3.trans hK (by intro y hy hlt; simp at hy; omega)
    have hTV := HTb.out.keep0 (KW.then kV1)
    have hzW := hK.size
    have hBxW := hbx.lt
    simp only [hV1]
    clear hV1 kV bL q1 q3
    have HBS := Lib.hid (blockIn_snoc x.tasks (bitsL ab) (outs pre) ri)
    have HBI := Lib.hid (blockIn_le HSm.out (bitsL ab) (outs pre))
    have HPR : Hid ((outs pre).length ≤ 32) := by show _ ≤ _; rw [outs_length]; have := HLo.out; omega
    generalize blockIn x.tasks (bitsL ab) (outs pre) = B0 at *
    refine wpIn_rangeFunc_ownN (l₀ := l) (r₀ := r) rfl hr' (by omega) (gf := 56) (lb := #[.pointer (some ⟨W.heap.size + 1, 0, none⟩)]) rfl trivial (enters_of Tryd.func56 (by kernel_rfl) rfl)
      ((maskAll1_stops 6 ab (W.heap.size + 1) V1 (by omega) bS hal hTV).inRound l) Same.trans (Same.turn (by have := hTV.1; simp; omega)) (Below.refl _ _) (fun _ => rfl)
      (fun pre' W' => Blk W' W.heap.size 3 #[.int .i64 (longIn x.tasks ri pre')] ∧ Blk W' Bx 3 #[.int .i64 (ri : Int)] ∧ Blk W' g10 3 #[.int .i64 B0] ∧ Keep [W.heap.size] V1 W')
      (fun _ _ _ => False)
      ?hI2 ?hIx2 ⟨bL1, hbx', hb', Keep.refl _ _⟩
      (fun y a'' _ => a'' = { tmps := #[.agg cs, .int .u32 (s : Int), .agg tc.toArray, .int .i64 task, .pointer (some ⟨w.heap.size, 0, none⟩), .pointer (some ⟨w.heap.size + 1, 0, none⟩), .pointer (some ⟨w.heap.size + 2, 0, none⟩), .pointer (some ⟨w.heap.size + 3, 0, none⟩),
        .int .i64 0, .int .u32 (ov : Int), .pointer (some ⟨g10, 0, none⟩), .pointer (some ⟨Bx, 0, none⟩), .pointer (some ⟨W.heap.size, 0, none⟩), .int .i64 (y : Int), .agg tc.toArray, .int .i64 task, .int .u32 (ov : Int), .int .u32 (ov : Int), .func (.func 56) #[] #[.pointer (some ⟨g10 + 1, 0, none⟩)], .int .i64 (ri : Int),
        .int .u32 (s : Int), .int .i64 task, .int .u32 (ab : Int), .func (.func 56) #[] #[.pointer (some ⟨W.heap.size + 1, 0, none⟩)], .int .i64 (y : Int), undef, undef, undef, undef, undef, undef, undef, undef, undef, undef, undef, undef, undef, undef, undef, undef, undef, undef, undef], defers := [] })
      (fun _ _ _ _ _ _ hs _ _ => hs) ?assign2 ?body2 ?done2 ?stop2
    case hI2 =>
      intro pre' X Y row hs hg hr
      exact ⟨blk_own (β := Unit) _ _ (fun _ => _) () X Y row hs.1 hg hr, blk_own (β := Unit) _ _ (fun _ => _) () X Y row hs.2.1 hg hr, blk_own (β := Unit) _ _ (fun _ => _) () X Y row hs.2.2.1 hg hr, keep_own (β := Unit) (Nat.le_refl _) () X Y row hs.2.2.2 hg hr⟩
    case hIx2 => exact fun _ _ _ _ _ hs _ _ => hs
    case assign2 =>
      rintro l2 pre' y W' K hi2 hK2
      simp only [encN]
      gi_wp2
      exact hK2 _ _ (KeepsFrom.refl _ _) (Same.refl _ _) hi2 rfl
    case body2 =>
      rintro l2 pre' k a'' W' _ _ ⟨hL2, hx2, hb2, hK2⟩ rfl hlt2
      have HKI := Lib.hid ((KW.then kV1).trans hK2 (by intro y hy hlt; simp at hy; have := KW.size; omega))
      have c4 := hI1.out _ _ ((c0.keep hK (by simp; omega)).keep0 kV1 |>.keep hK2 (by simp; have := KW.size; omega))
      have HSN := Lib.hid (longIn_snoc x.tasks ri pre' k)
      have hlen := HL.out
      unfold maxLen at hlen
      by_cases hk : k < x.tasks.length
      · obtain ⟨b, o, hA, hbw, hcs2⟩ := HI.out.task (by omega)
        have hl8 := HI.out.ok.lon _ (List.getElem_mem hk)
        have hct := (hcs2 k hk).keep0 HKI.out hbw
        have hz0 : (tskCells x.tasks[k])[3 + ri]? = some (.int .i64 (x.tasks[k].lon.getD ri 0)) := by
          have e : (tskInts x.tasks[k])[3 + ri]? = some (x.tasks[k].lon.getD ri 0) := by
            unfold tskInts
            rw [show 3 + ri = ri + 1 + 1 + 1 by omega]
            simp only [List.getElem?_cons_succ, List.getD_eq_getElem?_getD, List.getElem?_eq_getElem (show ri < x.tasks[k].lon.length by omega), Option.getD_some]
          unfold tskCells iv
          rw [List.getElem?_map, e]; rfl
        have hz := hct (3 + ri) _ hz0
        rw [← Nat.add_assoc] at hz
        have HS : Hid (longIn x.tasks ri (pre' ++ [k]) = max (longIn x.tasks ri pre') (x.tasks[k].lon.getD ri 0)) := by
          show _ = _
          rw [HSN.out]; unfold lonStep; rw [List.getElem?_eq_getElem hk]
        have p0 : (0 : Int) ≤ (ri : Int) := by omega
        have p1 : (ri : Int) < 8 := by omega
        have p2 : (0 : Int) ≤ (k : Int) := by omega
        have p3 : (k : Int) < (x.tasks.length : Int) := by omega
        rw [hA] at c4
        have eL := hL2.cell 0
        have fL := hL2.frozen 0
        have eX := hx2.cell 0
        simp at eL eX
        have HL2 := Lib.hid hL2
        have HX2 := Lib.hid hx2
        have HB2 := Lib.hid hb2
        have HK2 := Lib.hid hK2
        generalize longIn x.tasks ri pre' = z0 at *
        generalize x.tasks[k].lon.getD ri 0 = z1 at *
        have hF : ∀ w', Keep [] W' w' → w'.cell? ⟨W.heap.size, 0, none⟩ = some (.int .i64 z0) ∧ w'.cell? ⟨Bx, 0, none⟩ = some (.int .i64 (ri : Int)) ∧ w'.cell? ⟨w.heap.size, 1, none⟩ = some (.slice (some ⟨b, o, none⟩) x.tasks.length v.tc) ∧ w'.cell? ⟨b, o + k * 11 + 3 + ri, none⟩ = some (.int .i64 z1) := fun w' hw =>
          ⟨(hw.cell (p := ⟨W.heap.size, 0, none⟩) (HL2.out.lt) (by simp)).trans eL, (hw.cell (p := ⟨Bx, 0, none⟩) (HX2.out.lt) (by simp)).trans eX, (hw.cell (p := ⟨w.heap.size, 1, none⟩) (World.block_lt_of_cell? _ _ c4) (by simp)).trans c4,
            (hw.cell (p := ⟨b, o + k * 11 + 3 + ri, none⟩) (World.block_lt_of_cell? _ _ hz) (by simp)).trans hz⟩
        have C4 := Lib.hid c4
        clear hcs2 hct hz0 hz eX hL2 hx2 hb2 hK2
        rcases Int.lt_or_le z0 z1 with hzz | hzz
        all_goals
          gi_wp2
          clear c4
          refine ap_start 10 (Keep [] W') (open_round _) rfl rfl (Keep.refl _ _).drew (fun hS hPan => ?_) (fun _ _ _ _ _ h => h)
          (refine ap_val (v := ?_) 0 rfl (by kernel_rfl) (by kernel_rfl) (by kernel_rfl) (by kernel_rfl) (by rfl) hPan ?_ hS ?_; rotate_left; (intro w' hSw; obtain ⟨f1,f2,f3,f4⟩ := hF w' hSw; go_simp; try with_reducible rfl); simp only [Act.put, List.setIfInBounds_toArray, List.set_cons_zero, List.set_cons_succ])
          (refine ap_val (v := ?_) 1 rfl (by kernel_rfl) (by kernel_rfl) (by kernel_rfl) (by kernel_rfl) (by rfl) hPan ?_ hS ?_; rotate_left; (intro w' hSw; obtain ⟨f1,f2,f3,f4⟩ := hF w' hSw; go_simp; try with_reducible rfl); simp only [Act.put, List.setIfInBounds_toArray, List.set_cons_zero, List.set_cons_succ])
          (refine ap_val (v := ?_) 2 rfl (by kernel_rfl) (by kernel_rfl) (by kernel_rfl) (by kernel_rfl) (by rfl) hPan ?_ hS ?_; rotate_left; (intro w' hSw; obtain ⟨f1,f2,f3,f4⟩ := hF w' hSw; go_simp; try with_reducible rfl); simp only [Act.put, List.setIfInBounds_toArray, List.set_cons_zero, List.set_cons_succ])
          (refine ap_val (v := ?_) 3 rfl (by kernel_rfl) (by kernel_rfl) (by kernel_rfl) (by kernel_rfl) (by rfl) hPan ?_ hS ?_; rotate_left; (intro w' hSw; obtain ⟨f1,f2,f3,f4⟩ := hF w' hSw; go_simp; try with_reducible rfl); simp only [Act.put, List.setIfInBounds_toArray, List.set_cons_zero, List.set_cons_succ])
          (refine ap_val (v := ?_) 4 rfl (by kernel_rfl) (by kernel_rfl) (by kernel_rfl) (by kernel_rfl) (by rfl) hPan ?_ hS ?_; rotate_left; (intro w' hSw; obtain ⟨f1,f2,f3,f4⟩ := hF w' hSw; go_simp; try with_reducible rfl); simp only [Act.put, List.setIfInBounds_toArray, List.set_cons_zero, List.set_cons_succ])
          (refine ap_val (v := ?_) 5 rfl (by kernel_rfl) (by kernel_rfl) (by kernel_rfl) (by kernel_rfl) (by rfl) hPan ?_ hS ?_; rotate_left; (intro w' hSw; obtain ⟨f1,f2,f3,f4⟩ := hF w' hSw; go_simp; try with_reducible rfl); simp only [Act.put, List.setIfInBounds_toArray, List.set_cons_zero, List.set_cons_succ])
          (refine ap_val (v := ?_) 6 rfl (by kernel_rfl) (by kernel_rfl) (by kernel_rfl) (by kernel_rfl) (by rfl) hPan ?_ hS ?_; rotate_left; (intro w' hSw; obtain ⟨f1,f2,f3,f4⟩ := hF w' hSw; go_simp; try with_reducible rfl); simp only [Act.put, List.setIfInBounds_toArray, List.set_cons_zero, List.set_cons_succ])
          (refine ap_val (v := ?_) 7 rfl (by kernel_rfl) (by kernel_rfl) (by kernel_rfl) (by kernel_rfl) (by rfl) hPan ?_ hS ?_; rotate_left; (intro w' hSw; obtain ⟨f1,f2,f3,f4⟩ := hF w' hSw; go_simp; try with_reducible rfl); simp only [Act.put, List.setIfInBounds_toArray, List.set_cons_zero, List.set_cons_succ])
          (refine ap_val (v := ?_) 8 rfl (by kernel_rfl) (by kernel_rfl) (by kernel_rfl) (by kernel_rfl) (by rfl) hPan ?_ hS ?_; rotate_left; (intro w' hSw; obtain ⟨f1,f2,f3,f4⟩ := hF w' hSw; go_simp; try with_reducible rfl); simp only [Act.put, List.setIfInBounds_toArray, List.set_cons_zero, List.set_cons_succ])
          (refine ap_val (v := ?_) 9 rfl (by kernel_rfl) (by kernel_rfl) (by kernel_rfl) (by kernel_rfl) (by rfl) hPan ?_ hS ?_; rotate_left; (intro w' hSw; obtain ⟨f1,f2,f3,f4⟩ := hF w' hSw; go_simp; try with_reducible rfl); simp only [Act.put, List.setIfInBounds_toArray, List.set_cons_zero, List.set_cons_succ])
          refine ap_one 10 (by kernel_rfl) ?_
          refine op_store1 10 rfl (by rfl) rfl rfl rfl (by kernel_rfl) rfl rfl eL fL ?_
          refine ⟨fun h => (by cases h), ap_done (by kernel_rfl) ?_ _⟩
          rw [noOut_normal]
          (simp only [Act.put])
          gi_wp2
          have k1 := (Keep.refl [W.heap.size] W').drew
          have hUz : ∀ zz : Int, Keep [W.heap.size] W' (W'.drew.setCell ⟨W.heap.size, 0, none⟩ (.int .i64 zz)) := fun zz => k1.setCell (by simp) _
          refine ⟨(hUz _).from (fun y hy => .inr (by simp at hy; subst hy; exact ⟨_, _, _, HL2.out⟩)), Same.keep (hUz _) (fun y hy => ⟨by have h1 := HK2.out.size; have h2 := HKI.out.size; simp only [List.mem_cons, List.not_mem_nil, or_false] at hy; rcases hy with rfl | rfl <;> omega, by simp only [List.mem_cons, List.not_mem_nil, or_false] at hy ⊢; rcases hy with rfl | rfl <;> omega⟩), ?_, HX2.out.keep (hUz _) (by simp; omega), HB2.out.keep (hUz _) (by simp; omega), HK2.out.trans (hUz _) (by simp)⟩
          rw [HS.out]
          first
            | (rw [show max z0 z1 = z1 by omega]; exact HL2.out.drew.set_ 0 _)
            | (rw [show max z0 z1 = z0 by omega]; exact HL2.out.drew.set_ 0 _)
      · have HE : Hid (longIn x.tasks ri (pre' ++ [k]) = longIn x.tasks ri pre') := by
          show _ = _
          rw [HSN.out]; unfold lonStep; rw [List.getElem?_eq_none (by omega)]
        gi_wp2
        exact ⟨KeepsFrom.refl _ _, Same.refl _ _, by rw [HE.out]; exact hL2, hx2, hb2, hK2⟩
    case done2 =>
      rintro us W' rfl ⟨hL2, hx2, hb2, hK2⟩
      have HLI := Lib.hid (longIn_le HSm.out ri (bitsL ab))
      have e1 := hL2.cell 0
      have e2 := hb2.cell 0
      have f2 := hb2.frozen 0
      simp at e1 e2
      have HBS2 : Hid (blockIn x.tasks (bitsL ab) (outs (pre ++ [(⟨ri, hri⟩ : {x // x ∈ bitsL ov})])) = B0 + longIn x.tasks ri (bitsL ab)) := by
        show _ = _
        rw [outs_snoc]; exact HBS.out
      generalize longIn x.tasks ri (bitsL ab) = L0 at *
      have i1 := HLI.out
      have i2 := HBI.out
      have i3 := HPR.out
      have hlo2 : 0 ≤ B0 + L0 := by omega
      have hhi2 : B0 + L0 ≤ 1000000 := by omega
      gi_wp2
      have k5 : Keep [W.heap.size, g10] V1 (W'.setCell ⟨g10, 0, none⟩ (.int .i64 (B0 + L0))) := (hK2.mono (by simp)).trans (keep_set W' g10 0 _) (by simp)
      have k6 : Keep [g10] W (W'.setCell ⟨g10, 0, none⟩ (.int .i64 (B0 + L0))) := (kV1.mono (by simp)).trans k5 (fun y hy hlt => by simp at hy ⊢; omega)
      refine ⟨k6.from (fun y hy => .inl (by simp at hy; omega)), Same.keep k6 (fun y hy => ⟨by simp only [List.mem_cons, List.not_mem_nil, or_false] at hy; rcases hy with rfl | rfl <;> omega, by simp only [List.mem_cons, List.not_mem_nil, or_false] at hy ⊢; rcases hy with rfl | rfl <;> omega⟩), ?_, hK.trans k6 (by simp)⟩
      rw [HBS2.out]
      exact hb2.set_ 0 _
    case stop2 =>
      rintro c pre' W' hpre' hF
      exact hF.elim
  case done =>
    rintro D ys W hD hys ⟨hb, hK⟩ hD2
    have hys : outs ys = bitsL ov := hys
    rw [hys] at hb
    have hc := hb.cell 0
    simp at hc
    gi_wp2
    have hD3 := hD2
    refine ⟨by simp, .inl ⟨_, _, rfl, run_takeDeferred hD3, ?_⟩⟩
    have m3 := (K3.trans hK (by intro y hy hlt; simp at hy; omega)).trans (keep_putObj _ D (.deferred none)) (fun y hy hlt => by simp at hy; omega)
    exact ⟨_, by simp [results, Tryd.results58, go_sem]; rfl, by unfold blockM; rw [hov], m3⟩
  case stop =>
    rintro D c pre W _ hpre hF _
    exact hF.elim
end Go.Proofs.YteflgdnekflbbaaDoor
