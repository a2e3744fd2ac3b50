/- Uses as an iterator, walked; the law's helper uses. -/
import Derived.Test.YtajlkfhekligeaaImgT
import Derived.Test.YtajlkfhekligeaaIterAgg
namespace Go.Proofs.Ytajlkfhekligeaa
open Go.RowKit
attribute [local go_sem] Oper.semAt_some

/-- What a call that answers a new row of numbers leaves. -/
def RetI (w : World) (xs : List Int) (e : Ending) (w' : World) : Prop :=
  ∃ A c, e = .returned (.slice A xs.length c) ∧ w'.ownsRow w.heap.size 3 1 (.slice A xs.length c) xs.length (iv xs) ∧ Keep [] w w'
theorem slice_intI : SliceOf Try.prog 52 3 1 8 := ⟨Try.underlying52, by kernel_rfl, by decide⟩
/-- What Uses goes through, of the first k resources. -/
def usesK (l : List Int) : Nat → List PII
  | 0 => []
  | k + 1 => usesK l k ++ (if 0 < l.getD k 0 then [((k : Int), l.getD k 0)] else [])
theorem usesK_le (l : List Int) : ∀ k, (usesK l k).length ≤ k
  | 0 => by simp [usesK]
  | k + 1 => by
    have := usesK_le l k
    rw [usesK, List.length_append]
    split <;> simp <;> omega
theorem usesK_prefix (l : List Int) {i j : Nat} (h : i ≤ j) : usesK l i <+: usesK l j := by
  induction j with
  | zero => obtain rfl : i = 0 := by omega
            exact List.prefix_refl _
  | succ j ih =>
    rcases Nat.lt_or_ge i (j + 1) with h1 | h1
    · exact (ih (by omega)).trans (by rw [usesK]; exact List.prefix_append _ _)
    · obtain rfl : i = j + 1 := by omega
      exact List.prefix_refl _

theorem uses_any (t : Tsk) (w : World) : Calls Try.prog 39 #[.agg (tskCells t).toArray] w fun e w' =>
    e = .returned (.func (.func 54) #[] #[.pointer (some ⟨w.heap.size, 0, none⟩)]) ∧ w.alloc (.cells (tskCells t).toArray 38) = w' := by
  generalize (tskCells t).toArray = cs
  go_enter Try.func39, Try.ntmps39
  go_wp2
  go_ret
  exact ⟨rfl, rfl⟩

set_option maxRecDepth 100000 in
set_option maxHeartbeats 1000000 in
theorem uses1_stops (n : Nat) (t : Tsk) (B : Nat) (w : World) (hB : B < w.heap.size) (hb : Blk w B 38 (tskCells t).toArray) (hl8 : t.lon.length = 8) :
    SeqStopsK Fence.wide n Try.prog 54 #[.pointer (some ⟨B, 0, none⟩)] encPII (Same [B]) (fun xs => xs = usesK t.lon 8) (fun pre => pre <+: usesK t.lon 8) (usesK t.lon 8).length w := by
  intro l0 J Jx W hW hJ hJx hY h0
  have hcW : Hid (CellsAt W B 3 (iv t.lon)) := by
    intro j u hu
    exact (hW.cell (p := ⟨B, 3 + j, none⟩) hB).trans ((tsk_lonAt hb) j u hu)
  have HL8 := Lib.hid hl8
  have HI := Lib.hid (fun k (hk : k < 8) v hv W => run_index_agg (P := Try.prog) (t := 36) (e := 3) (n := 8) (cs := (iv t.lon).toArray) (v := v) Try.underlying36 Try.underlying3 rfl (by kernel_rfl) k hk hv W)
  have HG : Hid (∀ k, k < 8 → (iv t.lon).toArray[k]? = some (.int .i64 (t.lon.getD k 0))) := fun k hk => by
    rw [List.getElem?_toArray, iv_get (by omega), List.getD_eq_getElem?_getD, List.getElem?_eq_getElem (by omega)]; rfl
  have hA : Hid (AggOf Try.prog 36 (iv t.lon).length) := by show AggOf _ _ _; rw [List.length_map, hl8]; exact agg_8
  clear hl8 hb
  generalize t.lon = lon at *
  refine callsIn_of_wp Try.func54 rfl trivial ?_ rfl
  simp only [Try.ntmps54, List.size_toArray, List.length_cons, List.length_nil, Nat.reduceAdd, Nat.reduceSub, Array.replicate_succ, Array.replicate_zero, List.push_toArray, List.append_toArray, List.nil_append, List.cons_append]
  gi_wp2_with (refine wpListIn_agg rfl 36 (.tmp 5) rfl rfl (cs := iv lon) hA.out hcW.out ?_)
  clear hcW hA
  generalize (iv lon).toArray = cs at *
  gi_loopw [7] (fun vi wr => ∃ k : Nat, k ≤ 8 ∧ vi = .int .i64 k ∧ J (usesK lon k) wr) (fun i _ => 8 - (intOf i).toNat)
  case atStart => exact ⟨0, Nat.zero_le _, rfl, h0⟩
  case round =>
    obtain ⟨k, hk, rfl, hJr⟩ := hrel
    by_cases hlt : k < 8
    · have hlen0 := usesK_le lon k
      have hpre := Lib.hid (usesK_prefix lon (show k + 1 ≤ 8 by omega))
      have hrun := fun W => HI.out k hlt _ (HG.out k hlt) W
      by_cases hc : 0 < lon.getD k 0
      · have hS : Hid (usesK lon (k + 1) = usesK lon k ++ [((k : Int), lon.getD k 0)]) := by show _ = _; rw [usesK, if_pos hc]
        have hlen : (usesK lon k).length < (usesK lon 8).length := by
          have := hpre.out.length_le
          rw [hS.out] at this
          simp at this
          omega
        obtain ⟨fn, tmps, assign, body, hy, hR⟩ := hY (usesK lon k) ((k : Int), lon.getD k 0) wr hJr hlen
        dsimp only [encPII] at hy
        rw [← hS.out] at hR
        generalize lon.getD k 0 = c at *
        clear hlen hlen0
        gi_wp2
        refine ⟨fun h => (by cases h), hR.mono ?_⟩
        rintro e W3 (⟨rfl, hJ3, hk3⟩ | ⟨rfl, hJx3⟩)
        · gi_wp2
          go_roundw
          case rel => exact ⟨k + 1, by omega, by go_num, hJ3⟩
          case measure => simp [intOf] <;> omega
        · gi_wp2
          refine bodyPost_ret (results_none rfl _ _ _) rfl ?_
          exact ⟨⟨_, rfl⟩, .inr ⟨_, hpre.out, hJx3⟩⟩
      · have hS : Hid (usesK lon (k + 1) = usesK lon k) := by show _ = _; rw [usesK, if_neg hc, List.append_nil]
        have hx0 : lon.getD k 0 ≤ 0 := by omega
        generalize lon.getD k 0 = x at *
        clear hc
        gi_wp2
        refine ⟨fun f h => (by cases h), ?_⟩
        gi_wp2
        go_roundw
        case rel => exact ⟨k + 1, by omega, by go_num, by rw [hS.out]; exact hJr⟩
        case measure => simp [intOf] <;> omega
    · obtain rfl : k = 8 := by omega
      gi_wp2
      go_end0
      exact ⟨⟨_, rfl⟩, .inl ⟨_, rfl, hJr⟩⟩

set_option maxRecDepth 100000 in
set_option maxHeartbeats 400000 in
theorem usesHelp_any (t : Tsk) (w : World) (hl8 : t.lon.length = 8) :
    Calls Try.prog 15 #[.agg (tskCells t).toArray] w (RetI w (flatP (usesK t.lon 8))) := by
  have hnn := fun f x y => run_neq_func_nil (P := Try.prog) Try.underlying92 f x y
  have HA : Hid (AggOf Try.prog 38 (tskCells t).length) := by show AggOf _ _ _; rw [tskCells_len hl8]; exact agg_task
  rw [← callsIn_wide (n := 9)]
  refine callsIn_of_wp_marks Try.func15 rfl trivial ?_ rfl
  simp only [Try.ntmps15, List.size_toArray, List.length_cons, List.length_nil, Nat.reduceAdd, Nat.reduceSub, Array.replicate_succ, Array.replicate_zero, List.push_toArray, List.append_toArray, List.nil_append, List.cons_append]
  obtain ⟨W1, hW1⟩ : ∃ W1, (w.alloc (.cells (tskCells t).toArray 38)).alloc (.cells #[.slice none 0 0] 52) = W1 := ⟨_, rfl⟩
  have hsz1 : W1.heap.size = w.heap.size + 2 := by rw [← hW1]; simp
  have c0 : Blk W1 w.heap.size 38 (tskCells t).toArray := by rw [← hW1]; exact (Blk.new _ _ _).alloc _
  have c1 : Blk W1 (w.heap.size + 1) 52 #[.slice none 0 0] := by
    rw [← hW1]; have := Blk.new (w.alloc (.cells (tskCells t).toArray 38)) 52 #[.slice none 0 0]; rw [World.size_alloc] at this; exact this
  have K1 : Keep [] w W1 := by rw [← hW1]; exact ((Keep.refl _ w).alloc _).alloc _
  have HW := Lib.hid hW1
  have HCA : Hid (CellsAt W1 w.heap.size 0 (tskCells t)) := c0.cellsAt
  clear hW1
  gi_wp2_with (first
    | (rw [HW.out]; refine wpListIn_agg rfl 38 (.tmp 1) rfl rfl (cs := tskCells t) HA.out HCA.out ?_)
    | (refine ⟨trivial, ?_⟩; gi_at_call 39; refine (callsIn_wide.2 (uses_any t _)).mono ?_; rintro e w' ⟨rfl, rfl⟩))
  obtain ⟨W0, hW0⟩ : ∃ W0, W1.alloc (.cells (tskCells t).toArray 38) = W0 := ⟨_, rfl⟩
  have hsz : W0.heap.size = w.heap.size + 3 := by rw [← hW0]; simp [hsz1]
  have b1 : Blk W0 (w.heap.size + 1) 52 #[.slice none 0 0] := by rw [← hW0]; exact c1.alloc _
  have b2 : Blk W0 (w.heap.size + 2) 38 (tskCells t).toArray := by rw [← hW0, ← hsz1]; exact Blk.new _ _ _
  have K0 : Keep [] w W0 := by rw [← hW0]; exact K1.alloc _
  have hlen : (usesK t.lon 8).length ≤ 8 := usesK_le t.lon 8
  simp only [hW0]
  clear HW HCA HA c0 c1 K1
  have HL := Lib.hid hlen
  have hss := uses1_stops 8 t (w.heap.size + 2) W0 (by omega) b2 hl8
  generalize (tskCells t).toArray = cs at *
  refine wpIn_rangeFunc_ownG (F := Fence.wide) (n := 9) (ps := #[12, 13]) rfl (by omega) (gf := 54) (lb := #[.pointer (some ⟨w.heap.size + 2, 0, none⟩)]) rfl trivial (enters_of Try.func54 (by kernel_rfl) rfl)
    hss Same.trans (Same.turn (by simp; omega)) (Below.refl _ _) (fun _ => rfl)
    (fun pre W => ∃ v, W.ownsRow (w.heap.size + 3) 3 1 v (2 * pre.length) (iv (flatP pre)) ∧ Blk W (w.heap.size + 1) 52 #[v] ∧ Keep [w.heap.size + 1] W0 W)
    (fun _ _ _ => False)
    ?hI ?hIx ⟨_, World.ownsRow_nil _ _ _ _, b1, Keep.refl _ _⟩
    (fun x => { tmps := #[.agg cs, .pointer (some ⟨w.heap.size, 0, none⟩), .slice none 0 0, .pointer (some ⟨w.heap.size + 1, 0, none⟩), .func (.func 54) #[] #[.pointer (some ⟨w.heap.size + 2, 0, none⟩)], .int .i64 x.1, .int .i64 x.2, .agg cs,
      .func (.func 54) #[] #[.pointer (some ⟨w.heap.size + 2, 0, none⟩)], .func (.func 54) #[] #[.pointer (some ⟨w.heap.size + 2, 0, none⟩)], .bool true, .func (.func 54) #[] #[.pointer (some ⟨w.heap.size + 2, 0, none⟩)], .int .i64 x.1, .int .i64 x.2,
      undef, undef, undef, undef, undef, undef], defers := [] }) ?assign ?body ?done ?stop
  case hI =>
    intro pre X Y row hs hg hr
    obtain ⟨v, h1, h2, h4⟩ := hs
    exact ⟨v, ownsRow_own (β := Unit) _ _ _ (fun _ => v) (fun _ => 2 * pre.length) (fun _ => iv (flatP pre)) () X Y row h1 hg hr, blk_own (β := Unit) _ _ (fun _ => _) () X Y row h2 hg hr,
      keep_own (β := Unit) (Nat.le_refl _) () X Y row h4 hg hr⟩
  case hIx => exact fun _ _ _ _ _ hs _ _ => hs
  case assign =>
    intro l x W K hK
    simp only [encPII]
    gi_wp2
    exact hK
  case body =>
    rintro l0 pre x W ⟨v, hrow, hv, hK⟩ hlt
    have hc := hv.cell 0
    simp at hc
    obtain ⟨A, c, rfl⟩ := own_shape hrow
    have hne := own_blk_ne hrow hv (by decide)
    have hB : w.heap.size + 3 ≤ W.heap.size := by have := hK.size; omega
    have hl11 := HL.out
    gi_wp2_with (gi_at_builtin; refine wpListIn_app_lit 2 rfl (.tmp 14) (.tmp 17) 52 rfl slice_intI hrow rfl rfl (us := [.int .i64 x.1, .int .i64 x.2]) rfl (by simp [Value.oneCell']) hB (by omega) (by unfold maxLen; omega) ?_; intro v' w1 hown1 hk1 hat1; obtain ⟨A', c', rfl⟩ := own_shape hown1; have hv1 := hv.keep hk1 (by simpa using hne); have hc1 := hv1.cell 0; have hf1 := hv1.frozen 0; simp at hc1)
    obtain ⟨n1, n2, n3⟩ := boxed_append hrow hv (by decide) hk1 hown1
    have hlt' := fun x hx => (hrow.lt x (by simpa using hx)).1
    refine ⟨n3.from (fun y hy => ?_), Same.keep n3 (fun y hy => ?_), ⟨_, ?_, n1, ?_⟩⟩
    · rcases List.mem_cons.1 hy with rfl | hy
      · exact .inl (by omega)
      · exact .inr (own_cells hrow y hy)
    · simp only [List.mem_singleton] at hy
      subst hy
      refine ⟨by omega, fun hm => ?_⟩
      rcases List.mem_cons.1 hm with h | h
      · omega
      · have := hlt' _ (by simpa using h); omega
    · have e1 : 2 * (pre ++ [x]).length = 2 * pre.length + 2 := by simp; omega
      rw [flatP_snoc, e1]
      simpa [iv] using n2
    · refine hK.trans n3 (fun y hy hys => ?_)
      rcases List.mem_cons.1 hy with h | h
      · simp [h]
      · have := hlt' _ (by simpa using h); omega
  case done =>
    rintro D ys W hD rfl ⟨v, hrow, hv, hK⟩ hD2
    have hc := hv.cell 0
    simp at hc
    obtain ⟨A, c, rfl⟩ := own_shape hrow
    gi_wp2
    have hD3 := hD2
    refine ⟨by simp, .inl ⟨_, _, rfl, run_takeDeferred hD3, ?_⟩⟩
    have m2 := own_putObj (.deferred none) hrow hD3 rfl
    have m3 := (K0.trans hK (by intro y hy hlt; simp at hy; omega)).trans (keep_putObj _ D (.deferred none)) (fun y hy hlt => by simp at hy; omega)
    refine ⟨.slice A (2 * (usesK t.lon 8).length) c, by simp [results, Try.results15, go_sem], A, c, ?_, ?_, m3⟩
    · rw [flatP_len]
    · rw [flatP_len]; exact own_base m2 (by omega)
  case stop =>
    rintro D c pre W _ hpre hF _
    exact hF.elim
end Go.Proofs.Ytajlkfhekligeaa
