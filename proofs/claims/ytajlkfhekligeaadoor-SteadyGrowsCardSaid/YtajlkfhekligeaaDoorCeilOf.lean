/- The ceilings of a set of an image's tasks. Condition: the table of math/bits lies where the program's text lays it. -/
import Derived.RangeFuncNested
import Derived.Test.YtajlkfhekligeaaDoorCeil
import Derived.Test.YtajlkfhekligeaaDoorUses
import Derived.Test.YtajlkfhekligeaaDoorTerms
namespace Go.Proofs.YtajlkfhekligeaaDoor
open Go.RowKit
attribute [local go_sem] Oper.semAt_some noOut_normal

/-- One use of a resource by task i. -/
def useStep (i : Nat) (t : List Int) (p : PII) : List Int := t.set p.1.toNat (min (t.getD p.1.toNat 0) (i : Int))
def taskStep (l : List Tsk) (t : List Int) (i : Nat) : List Int := match l[i]? with | some k => (usesK k.lon 8).foldl (useStep i) t | none => t
def ceilIn (l : List Tsk) (is : List Nat) : List Int := is.foldl (taskStep l) emptyTab
def ceilOf (l : List Tsk) (s : Nat) : List Int := ceilIn l (bitsL s)
theorem useStep_len (i : Nat) (t : List Int) (p : PII) : (useStep i t p).length = t.length := by simp [useStep]
theorem uses_len (i : Nat) : ∀ (ps : List PII) (t : List Int), (ps.foldl (useStep i) t).length = t.length
  | [], _ => rfl
  | p :: ps, t => by rw [List.foldl_cons, uses_len i ps, useStep_len]
theorem taskStep_len (l : List Tsk) (t : List Int) (i : Nat) : (taskStep l t i).length = t.length := by
  unfold taskStep
  split
  · exact uses_len i _ t
  · rfl
theorem ceilIn_from (l : List Tsk) : ∀ (is : List Nat) (t : List Int), (is.foldl (taskStep l) t).length = t.length
  | [], _ => rfl
  | i :: is, t => by rw [List.foldl_cons, ceilIn_from l is, taskStep_len]
theorem ceilIn_len (l : List Tsk) (is : List Nat) : (ceilIn l is).length = 8 := ceilIn_from l is emptyTab
theorem ceilIn_snoc (l : List Tsk) (is : List Nat) (i : Nat) : ceilIn l (is ++ [i]) = taskStep l (ceilIn l is) i := by simp [ceilIn]
theorem bitsL_sorted (s : Nat) : (bitsL s).Pairwise (· < ·) := by
  unfold bitsL
  exact List.Pairwise.filter _ List.pairwise_lt_range
theorem taskStep_far (l : List Tsk) (t : List Int) (i : Nat) (h : l.length ≤ i) : taskStep l t i = t := by
  unfold taskStep
  rw [List.getElem?_eq_none h]
theorem ceilIn_far (l : List Tsk) : ∀ (is : List Nat) (t : List Int), (∀ i ∈ is, l.length ≤ i) → is.foldl (taskStep l) t = t
  | [], _, _ => rfl
  | i :: is, t, h => by rw [List.foldl_cons, taskStep_far l t i (h i (by simp)), ceilIn_far l is t (fun j hj => h j (by simp [hj]))]
/-- Where a task is none, those behind it are none. -/
theorem ceilOf_stop (l : List Tsk) (s : Nat) {q : List Nat} {i : Nat} (h : q ++ [i] <+: bitsL s) (hi : l.length ≤ i) : ceilOf l s = ceilIn l q := by
  obtain ⟨r, hr⟩ := h
  have hs := bitsL_sorted s
  rw [← hr] at hs
  unfold ceilOf ceilIn
  rw [← hr, List.append_assoc, List.foldl_append, ceilIn_far]
  intro j hj
  rw [List.append_assoc] at hs
  have h2 := (List.pairwise_append.1 hs).2.1
  simp only [List.singleton_append, List.pairwise_cons, List.mem_cons] at h2 hj
  rcases hj with rfl | hj
  · exact hi
  · have := h2.1 j hj; omega
theorem usesK_mem {l : List Int} {p : PII} : ∀ {k : Nat}, p ∈ usesK l k → ∃ r : Nat, p.1 = (r : Int) ∧ r < k
  | 0, h => by simp [usesK] at h
  | k + 1, h => by
    rw [usesK, List.mem_append] at h
    rcases h with h | h
    · obtain ⟨r, h1, h2⟩ := usesK_mem h
      exact ⟨r, h1, by omega⟩
    · split at h
      · simp at h; exact ⟨k, by rw [h], by omega⟩
      · simp at h

set_option maxRecDepth 100000 in
set_option maxHeartbeats 1000000 in
theorem ceilOf_any (v : ImgV) (x : Img) (s : Nat) (w : World) (hT : Tab w) (h : ImgAt w v x) (hs : s < 4294967296) :
    Calls Tryd.prog 28 #[.agg (imgCells v x).toArray, .int .u32 (s : Int)] w fun e w' => e = .returned (.agg (iv (ceilOf x.tasks s)).toArray) ∧ Keep [] w w' := by
  rw [← callsIn_wide (n := 9)]
  refine callsIn_of_wp_marks Tryd.func28 rfl trivial ?_ rfl
  simp only [Tryd.ntmps28, List.size_toArray, List.length_cons, List.length_nil, Nat.reduceAdd, Nat.reduceSub, Array.replicate_succ, Array.replicate_zero, List.push_toArray, List.append_toArray, List.nil_append, List.cons_append]
  have HL := Lib.hid h.lt
  have HI := Lib.hid h
  have HTb := Lib.hid hT
  have hI1 : Hid (∀ g W, Blk W g 26 (imgCells v x).toArray → W.cell? ⟨g, 1, none⟩ = some (.slice v.ta x.tasks.length v.tc)) := fun g W hb => img_c1 hb
  obtain ⟨W0, hW0⟩ : ∃ W0, (w.alloc (.cells (imgCells v x).toArray 26)).alloc (.cells (List.replicate 8 (.int .i64 0)).toArray 75) = W0 := ⟨_, rfl⟩
  have b0 : Blk W0 w.heap.size 26 (imgCells v x).toArray := by rw [← hW0]; exact (Blk.new _ _ _).alloc _
  have b1 : Blk W0 (w.heap.size + 1) 75 (List.replicate 8 (.int .i64 0)).toArray := by
    rw [← hW0]; have := Blk.new (w.alloc (.cells (imgCells v x).toArray 26)) 75 (List.replicate 8 (.int .i64 0)).toArray; rw [World.size_alloc] at this; exact this
  have K0 : Keep [] w W0 := by rw [← hW0]; exact ((Keep.refl _ w).alloc _).alloc _
  have hsz : W0.heap.size = w.heap.size + 2 := by rw [← hW0]; simp
  clear h hT
  generalize hcs : (imgCells v x).toArray = cs at *
  have HW := Lib.hid hW0
  clear hW0
  gi_wp2_with (first
    | (refine ⟨trivial, ?_⟩; gi_at_call 58; refine (callsIn_wide.2 (cempty_any _)).mono ?_; rintro e w1 ⟨rfl, k1⟩)
    | (refine stopIn_store 75 (.tmp 5) (.tmp 8) rfl ?_))
  constructor
  have k1' : Keep [] W0 w1 := by rw [← HW.out]; exact k1
  refine wpListIn_store_all rfl 75 (.tmp 5) (.tmp 8) rfl rfl rfl (vs := iv emptyTab) (by kernel_rfl) (Blk.new _ _ _) (iv_one _) rfl ?_
  intro w2 d2 k2
  have hs1 := k1'.size
  have K2 : Keep [] W0 w2 := (k1'.alloc _).trans k2 (fun y hy hlt => by simp at hy; omega)
  have hs2 := k2.size
  simp at hs2
  have hg5 : W0.heap.size ≤ w1.heap.size := hs1
  clear k1 k1' k2 HW
  gi_wp2_with (refine ⟨trivial, ?_⟩; gi_at_call 59; refine (callsIn_wide.2 (maskAll_any s _)).mono ?_; rintro e w' ⟨rfl, rfl⟩)
  obtain ⟨W3, hW3⟩ : ∃ W3, w2.alloc (.cells #[.int .u32 (s : Int)] 50) = W3 := ⟨_, rfl⟩
  have hsz3 : W3.heap.size = w2.heap.size + 1 := by rw [← hW3]; simp
  have b3 : Blk W3 w2.heap.size 50 #[.int .u32 (s : Int)] := by rw [← hW3]; exact Blk.new _ _ _
  have k3 : Keep [] w2 W3 := by rw [← hW3]; exact (Keep.refl _ w2).alloc _
  have d3 := d2.keep0 k3
  have c0 := b0.keep0 (K2.then k3)
  have c1 := b1.keep0 (K2.then k3)
  have K3 : Keep [] w W3 := K0.then (K2.then k3)
  have hTW := HTb.out.keep0 K3
  simp only [hW3]
  obtain ⟨g5, hg⟩ : ∃ g5, w1.heap.size = g5 := ⟨_, rfl⟩
  obtain ⟨g6, hg6⟩ : ∃ g6, w2.heap.size = g6 := ⟨_, rfl⟩
  simp only [hg, hg6] at *
  have hzs : w.heap.size + 1 < g5 ∧ g5 < g6 ∧ W3.heap.size = g6 + 1 := ⟨by omega, by omega, hsz3⟩
  clear hW3 K2 k3 d2 b0 b1 K0 hs1 hs2 hg5 hg hg6
  have hzt := HTb.out.1
  refine wpIn_rangeFunc_ownH (F := Fence.wide) (n := 9) (ps := #[11]) rfl (by omega) (gf := 91) (lb := #[.pointer (some ⟨g6, 0, none⟩)]) rfl trivial (enters_of Tryd.func91 (by kernel_rfl) rfl)
    (maskAll1_stops 8 s g6 W3 (by omega) b3 hs hTW) Same.trans (Same.turn (by simp; omega)) (Below.refl _ _) (fun _ => rfl)
    (fun pre W => Blk W g5 75 (iv (ceilIn x.tasks pre)).toArray ∧ Keep [g5] W3 W)
    (fun c pre W => c = .exit 0 ∧ ∃ q i, pre = q ++ [i] ∧ x.tasks.length ≤ i ∧ Blk W g5 75 (iv (ceilIn x.tasks q)).toArray ∧ Keep [g5] W3 W)
    ?hI ?hIx ⟨d3, Keep.refl _ _⟩
    (fun i a' W => ∃ Bx, W3.heap.size ≤ Bx ∧ Blk W Bx 3 #[.int .i64 (i : Int)] ∧ a' = { tmps := #[.agg cs, .int .u32 (s : Int), .pointer (some ⟨w.heap.size, 0, none⟩), undef, .pointer (some ⟨w.heap.size + 1, 0, none⟩), .pointer (some ⟨g5, 0, none⟩), .pointer (some ⟨Bx, 0, none⟩), undef,
      .agg (iv emptyTab).toArray, .int .u32 (s : Int), .func (.func 91) #[] #[.pointer (some ⟨g6, 0, none⟩)], .int .i64 (i : Int),
      undef, undef, undef, undef, undef, undef, undef, undef, undef, undef, undef, undef, undef, undef, undef, undef, undef, undef, undef, undef, undef], defers := [] }) ?hAx ?assign ?body ?done ?stop
  case hI =>
    intro pre X Y row hs hg hr
    exact ⟨blk_own (β := Unit) _ _ (fun _ => _) () X Y row hs.1 hg hr, keep_own (β := Unit) (Nat.le_refl _) () X Y row hs.2 hg hr⟩
  case hIx =>
    intro c pre X Y row hs hg hr
    obtain ⟨h0, q, i, h1, h2, h3, h4⟩ := hs
    exact ⟨h0, q, i, h1, h2, blk_own (β := Unit) _ _ (fun _ => _) () X Y row h3 hg hr, keep_own (β := Unit) (Nat.le_refl _) () X Y row h4 hg hr⟩
  case hAx =>
    intro i a' _ X Y row hs hg hr
    obtain ⟨Bx, h1, h2, h3⟩ := hs
    exact ⟨Bx, h1, blk_own (β := Unit) _ _ (fun _ => _) () X Y row h2 hg hr, h3⟩
  case assign =>
    rintro l pre i W K ⟨h1, h2⟩ hK
    have hz := h2.size
    simp only [encN]
    gi_wp2
    have kA := (Keep.refl [] W).alloc (.cells #[.int .i64 (i : Int)] 3)
    exact hK _ _ kA.from0 (Same.keep kA (fun y hy => ⟨by simp only [List.mem_cons, List.not_mem_nil, or_false] at hy; rcases hy with rfl | rfl <;> omega, by simp⟩)) ⟨h1.keep0 kA, h2.then kA⟩ ⟨W.heap.size, hz, Blk.new _ _ _, rfl⟩
  case body =>
    rintro l pre i a' W hl ⟨r, hr⟩ ⟨hb, hK⟩ ⟨Bx, hBx, hbx, rfl⟩ hlt
    have cx := hbx.cell 0
    simp at cx
    have ci := hI1.out _ _ (c0.keep hK (by simp; omega))
    have hlen := HL.out
    unfold maxLen at hlen
    by_cases hi : i < x.tasks.length
    · obtain ⟨b, o, hA, hbw, hcs2⟩ := HI.out.task (by omega)
      have KW : Keep [] w W := K3.trans hK (by intro y hy hlt; simp at hy; omega)
      have HT : Hid (CellsAt W b (o + i * 11) (tskCells x.tasks[i])) := (hcs2 i hi).keep0 KW hbw
      have HTL : Hid ((tskCells x.tasks[i]).length = 11) := tskCells_len (HI.out.ok.lon _ (List.getElem_mem hi))
      have hl8 := HI.out.ok.lon _ (List.getElem_mem hi)
      have hTS : Hid (taskStep x.tasks (ceilIn x.tasks pre) i = (usesK x.tasks[i].lon 8).foldl (useStep i) (ceilIn x.tasks pre)) := by
        show _ = _
        unfold taskStep; rw [List.getElem?_eq_getElem hi]
      have hst := fun n B w => Lib.hid (uses1_seq n x.tasks[i] B w)
      have HU := fun w => Lib.hid (uses_any x.tasks[i] w)
      have q0 : (0 : Int) ≤ (i : Int) := by omega
      have q1 : (i : Int) < (x.tasks.length : Int) := by omega
      rw [hA] at ci
      clear hcs2
      generalize x.tasks[i] = tk at *
      generalize tskCells tk = tc at *
      gi_wp2_with (first
        | (refine wpListIn_agg rfl 39 (.tmp 20) rfl rfl (cs := tc) (by rw [HTL.out]; exact agg_task) HT.out ?_)
        | (refine ⟨trivial, ?_⟩; gi_at_call 60; refine ((callsIn_wide.2 (HU _).out).inRound l).mono ?_; rintro e w' ⟨rfl, rfl⟩))
      obtain ⟨V0, hV0⟩ : ∃ V0, W.alloc (.cells tc.toArray 39) = V0 := ⟨_, rfl⟩
      have kV : Keep [] W V0 := by rw [← hV0]; exact (Keep.refl _ W).alloc _
      have bV : Blk V0 W.heap.size 39 tc.toArray := by rw [← hV0]; exact Blk.new _ _ _
      have szV : V0.heap.size = W.heap.size + 1 := by rw [← hV0]; simp
      have hr' : V0.heap[l]? = some (.loop r) := (kV.block l (Array.getElem?_eq_some_iff.1 hr).1 (by simp)).trans hr
      have hb' := hb.keep0 kV
      have hbx' := hbx.keep0 kV
      simp only [hV0]
      clear hV0 ci cx
      have hzW := hK.size
      have HTC := Lib.hid (ceilIn_len x.tasks pre)
      have HSN := Lib.hid (ceilIn_snoc x.tasks pre i)
      generalize ceilIn x.tasks pre = T at *
      generalize hul : usesK tk.lon 8 = ul at *
      have HUL : Hid (∀ p ∈ ul, ∃ r : Nat, p.1 = (r : Int) ∧ r < 8) := fun p hp => usesK_mem (by rw [hul]; exact hp)
      have hgBx : g5 ≠ Bx := by omega
      refine wpIn_rangeFunc_ownN (l₀ := l) (r₀ := r) rfl hr' (by omega) (gf := 93) (lb := #[.pointer (some ⟨W.heap.size, 0, none⟩)]) rfl trivial (enters_of Tryd.func93 (by kernel_rfl) rfl)
        (((hst 6 W.heap.size V0).out (by omega) bV hl8).sub.inRound l) Same.trans (Same.turn (by simp; omega)) (Below.refl _ _) (fun _ => rfl)
        (fun pre' W' => Blk W' g5 75 (iv ((outs pre').foldl (useStep i) T)).toArray ∧ Blk W' Bx 3 #[.int .i64 (i : Int)] ∧ Keep [g5] V0 W')
        (fun _ _ _ => False)
        ?hI2 ?hIx2 ⟨hb', hbx', Keep.refl _ _⟩
        (fun y a'' _ => a'' = { tmps := #[.agg cs, .int .u32 (s : Int), .pointer (some ⟨w.heap.size, 0, none⟩), undef, .pointer (some ⟨w.heap.size + 1, 0, none⟩), .pointer (some ⟨g5, 0, none⟩), .pointer (some ⟨Bx, 0, none⟩), .int .i64 y.1.1,
          .agg (iv emptyTab).toArray, .int .u32 (s : Int), .func (.func 91) #[] #[.pointer (some ⟨g6, 0, none⟩)], .int .i64 (i : Int),
          .int .i64 (i : Int), .pointer (some ⟨w.heap.size, 1, none⟩), .slice (some ⟨b, o, none⟩) x.tasks.length v.tc, .int .i64 (x.tasks.length : Int), .bool false, .pointer (some ⟨w.heap.size, 1, none⟩), .slice (some ⟨b, o, none⟩) x.tasks.length v.tc, .int .i64 (i : Int),
          .pointer (some ⟨b, o + i * 11, none⟩), .agg tc.toArray, .func (.func 93) #[] #[.pointer (some ⟨W.heap.size, 0, none⟩)], .int .i64 y.1.1, .int .i64 y.1.2, undef, undef, undef, undef, undef, undef, undef, undef], defers := [] })
        (fun _ _ _ _ _ _ hs _ _ => hs) ?assign2 ?body2 ?done2 ?stop2
      case hI2 =>
        intro pre' X Y row hs hg hr
        exact ⟨blk_own (β := Unit) _ _ (fun _ => _) () X Y row hs.1 hg hr, blk_own (β := Unit) _ _ (fun _ => _) () X Y row hs.2.1 hg hr, keep_own (β := Unit) (by omega) () X Y row hs.2.2 hg hr⟩
      case hIx2 => exact fun _ _ _ _ _ hs _ _ => hs
      case assign2 =>
        rintro l2 pre' y W' K hi2 hK2
        simp only [encPII]
        gi_wp2
        exact hK2 _ _ (KeepsFrom.refl _ _) (Same.refl _ _) hi2 rfl
      case body2 =>
        rintro l2 pre' y a'' W' _ _ ⟨hb2, hx2, hK2⟩ rfl hlt2
        obtain ⟨⟨yr, yn⟩, hy⟩ := y
        obtain ⟨q, hq, hq8⟩ := HUL.out _ hy
        have hq : yr = (q : Int) := hq
        subst hq
        have hlT : ((outs pre').foldl (useStep i) T).length = 8 := by rw [uses_len, HTC.out]
        have HS : Hid (((outs (pre' ++ [(⟨((q : Int), yn), hy⟩ : {x // x ∈ ul})])).foldl (useStep i) T) = ((outs pre').foldl (useStep i) T).set q (min (((outs pre').foldl (useStep i) T).getD q 0) (i : Int))) := by
          show _ = _
          rw [outs_snoc, List.foldl_append]; rfl
        generalize (outs pre').foldl (useStep i) T = U at *
        have hcU := hb2.cell q
        rw [List.getElem?_toArray, iv_get (by omega)] at hcU
        have hgU : U.getD q 0 = U[q] := by rw [List.getD_eq_getElem?_getD, List.getElem?_eq_getElem (by omega)]; rfl
        rw [hgU] at HS
        have hset : ∀ z : Int, (iv U).toArray.setIfInBounds q (.int .i64 z) = (iv (U.set q z)).toArray := fun z => by simp [iv, List.map_set]
        have n1 := fun z => hset z ▸ hb2.set_ q (.int .i64 z)
        generalize U[q] = z at *
        have p0 : (0 : Int) ≤ (q : Int) := by omega
        have p1 : (q : Int) < 8 := by omega
        have cU := hcU
        have cI := hx2.cell 0
        have fU := hb2.frozen q
        simp at cI
        have HB := Lib.hid hb2
        have HX2 := Lib.hid hx2
        have HK2 := Lib.hid hK2
        have hF : ∀ w', Keep [] W' w' → w'.cell? ⟨g5, q, none⟩ = some (.int .i64 z) ∧ w'.cell? ⟨Bx, 0, none⟩ = some (.int .i64 (i : Int)) := fun w' hw =>
          ⟨(hw.cell (p := ⟨g5, q, none⟩) (HB.out.lt) (by simp)).trans cU, (hw.cell (p := ⟨Bx, 0, none⟩) (HX2.out.lt) (by simp)).trans cI⟩
        have N1 := Lib.hid n1
        clear hb2 hx2 hK2 n1 hset hcU hgU hlT cI
        rcases Int.lt_or_le (i : Int) z with hz | hz
        all_goals
          gi_wp2
          refine ap_start 7 (Keep [] W') (open_round _) rfl rfl (Keep.refl _ _).drew (fun hS hPan => ?_) (fun _ _ _ _ _ h => h)
          (refine ap_val (v := ?_) 0 rfl (by kernel_rfl) (by kernel_rfl) (by kernel_rfl) (by kernel_rfl) (by rfl) hPan ?_ hS ?_; rotate_left; (intro w' hSw; obtain ⟨f1,f2⟩ := hF w' hSw; go_simp; try with_reducible rfl); simp only [Act.put, List.setIfInBounds_toArray, List.set_cons_zero, List.set_cons_succ])
          (refine ap_val (v := ?_) 1 rfl (by kernel_rfl) (by kernel_rfl) (by kernel_rfl) (by kernel_rfl) (by rfl) hPan ?_ hS ?_; rotate_left; (intro w' hSw; obtain ⟨f1,f2⟩ := hF w' hSw; go_simp; try with_reducible rfl); simp only [Act.put, List.setIfInBounds_toArray, List.set_cons_zero, List.set_cons_succ])
          (refine ap_val (v := ?_) 2 rfl (by kernel_rfl) (by kernel_rfl) (by kernel_rfl) (by kernel_rfl) (by rfl) hPan ?_ hS ?_; rotate_left; (intro w' hSw; obtain ⟨f1,f2⟩ := hF w' hSw; go_simp; try with_reducible rfl); simp only [Act.put, List.setIfInBounds_toArray, List.set_cons_zero, List.set_cons_succ])
          (refine ap_val (v := ?_) 3 rfl (by kernel_rfl) (by kernel_rfl) (by kernel_rfl) (by kernel_rfl) (by rfl) hPan ?_ hS ?_; rotate_left; (intro w' hSw; obtain ⟨f1,f2⟩ := hF w' hSw; go_simp; try with_reducible rfl); simp only [Act.put, List.setIfInBounds_toArray, List.set_cons_zero, List.set_cons_succ])
          (refine ap_val (v := ?_) 4 rfl (by kernel_rfl) (by kernel_rfl) (by kernel_rfl) (by kernel_rfl) (by rfl) hPan ?_ hS ?_; rotate_left; (intro w' hSw; obtain ⟨f1,f2⟩ := hF w' hSw; go_simp; try with_reducible rfl); simp only [Act.put, List.setIfInBounds_toArray, List.set_cons_zero, List.set_cons_succ])
          (refine ap_val (v := ?_) 5 rfl (by kernel_rfl) (by kernel_rfl) (by kernel_rfl) (by kernel_rfl) (by rfl) hPan ?_ hS ?_; rotate_left; (intro w' hSw; obtain ⟨f1,f2⟩ := hF w' hSw; go_simp; try with_reducible rfl); simp only [Act.put, List.setIfInBounds_toArray, List.set_cons_zero, List.set_cons_succ])
          (refine ap_val (v := ?_) 6 rfl (by kernel_rfl) (by kernel_rfl) (by kernel_rfl) (by kernel_rfl) (by rfl) hPan ?_ hS ?_; rotate_left; (intro w' hSw; obtain ⟨f1,f2⟩ := hF w' hSw; go_simp; try with_reducible rfl); simp only [Act.put, List.setIfInBounds_toArray, List.set_cons_zero, List.set_cons_succ])
          have hD : Blk W'.drew g5 75 (iv U).toArray := HB.out.drew
          refine ap_one 7 (by kernel_rfl) ?_
          refine op_store1 7 rfl (by rfl) rfl rfl rfl (by kernel_rfl) rfl rfl cU fU ?_
          refine ⟨fun h => (by cases h), ap_done (by kernel_rfl) ?_ _⟩
          rw [noOut_normal]
          (simp only [Act.put, List.setIfInBounds_toArray, List.set_cons_zero, List.set_cons_succ])
          gi_wp2
          have k1 := (Keep.refl [g5] W').drew
          have hUz : ∀ zz : Int, Keep [g5] W' (W'.drew.setCell ⟨g5, q, none⟩ (.int .i64 zz)) := fun zz => k1.setCell (by simp) _
          refine ⟨(hUz _).from (fun y hy => .inl (by simp at hy; omega)), Same.keep (hUz _) (fun y hy => ⟨by simp at hy; subst hy; have := HK2.out.size; omega, by simp at hy ⊢; omega⟩), ?_, HX2.out.keep (hUz _) (by simp; omega), HK2.out.trans (hUz _) (by simp)⟩
          rw [HS.out]
          first
            | (rw [show min z (i : Int) = (i : Int) by omega]; exact N1.out _)
            | (rw [show min z (i : Int) = z by omega]; exact N1.out _)
      case done2 =>
        rintro us W' hus ⟨hb2, hx2, hK2'⟩
        have hK2 : Keep [g5] W W' := (kV.mono (by simp)).trans hK2' (by simp)
        gi_wp2
        refine ⟨hK2.from (fun y hy => .inl (by simp at hy; omega)), Same.keep hK2 (fun y hy => ⟨by simp only [List.mem_cons, List.not_mem_nil, or_false] at hy; rcases hy with rfl | rfl <;> omega, by simp only [List.mem_cons, List.not_mem_nil, or_false] at hy ⊢; rcases hy with rfl | rfl <;> omega⟩), ?_, hK.trans hK2 (by simp)⟩
        rw [HSN.out, hTS.out, ← hus]
        exact hb2
      case stop2 =>
        rintro c pre' W' hpre' hF
        exact hF.elim
    · have hz := hK.size
      gi_wp2
      exact ⟨KeepsFrom.refl _ _, rfl, pre, i, rfl, by omega, hb, hK⟩
  case done =>
    rintro D ys W hD rfl ⟨hb, hK⟩ hD2
    have hcs := hb.cellsAt
    have e1 := c1.keep hK (by simp; omega)
    gi_wp2_with (first
      | (refine wpListIn_agg rfl 75 (.tmp 5) rfl rfl (cs := iv (ceilIn x.tasks (bitsL s))) (by rw [iv_len, ceilIn_len]; exact agg_tab) hcs ?_)
      | (refine stopIn_store 75 (.tmp 4) (.tmp 32) rfl ?_))
    constructor
    refine wpListIn_store_all rfl 75 (.tmp 4) (.tmp 32) rfl rfl rfl (by rw [iv_len, ceilIn_len]; kernel_rfl) e1 (iv_one _) (by rw [iv_len, ceilIn_len]; rfl) ?_
    intro w5 d5 k5
    have hD3 := k5.block D (Array.getElem?_eq_some_iff.1 hD2).1 (by simp; omega) |>.trans hD2
    gi_wp2
    refine ⟨by simp, .inl ⟨_, _, rfl, run_takeDeferred hD3, ?_⟩⟩
    have m1 := blk_putObj (.deferred none) d5 hD3 rfl
    have m3 := ((K3.trans hK (by intro y hy hlt; simp at hy; omega)).trans k5 (fun y hy hlt => by simp at hy; omega)).trans (keep_putObj _ D (.deferred none)) (fun y hy hlt => by simp at hy; omega)
    exact ⟨.agg (iv (ceilOf x.tasks s)).toArray, results_blk rfl _ rfl m1 (by rw [iv_len, ceilIn_len]; exact agg_tab : AggOf _ _ (iv (ceilIn x.tasks (bitsL s))).length), rfl, m3⟩
  case stop =>
    rintro D c pre W hD hpre ⟨rfl, q, i, rfl, hi, hb, hK⟩ hD2
    have HE := Lib.hid (ceilOf_stop x.tasks s hpre hi)
    have hcs := hb.cellsAt
    have e1 := c1.keep hK (by simp; omega)
    gi_wp2_with (first
      | (refine wpListIn_agg rfl 75 (.tmp 5) rfl rfl (cs := iv (ceilIn x.tasks q)) (by rw [iv_len, ceilIn_len]; exact agg_tab) hcs ?_)
      | (refine stopIn_store 75 (.tmp 4) (.tmp 32) rfl ?_))
    constructor
    refine wpListIn_store_all rfl 75 (.tmp 4) (.tmp 32) rfl rfl rfl (by rw [iv_len, ceilIn_len]; kernel_rfl) e1 (iv_one _) (by rw [iv_len, ceilIn_len]; rfl) ?_
    intro w5 d5 k5
    have hD3 := k5.block D (Array.getElem?_eq_some_iff.1 hD2).1 (by simp; omega) |>.trans hD2
    gi_wp2
    refine ⟨by simp, .inl ⟨_, _, rfl, run_takeDeferred hD3, ?_⟩⟩
    have m1 := blk_putObj (.deferred none) d5 hD3 rfl
    have m3 := ((K3.trans hK (by intro y hy hlt; simp at hy; omega)).trans k5 (fun y hy hlt => by simp at hy; omega)).trans (keep_putObj _ D (.deferred none)) (fun y hy hlt => by simp at hy; omega)
    exact ⟨.agg (iv (ceilOf x.tasks s)).toArray, by rw [HE.out]; exact results_blk rfl _ rfl m1 (by rw [iv_len, ceilIn_len]; exact agg_tab), rfl, m3⟩
end Go.Proofs.YtajlkfhekligeaaDoor
