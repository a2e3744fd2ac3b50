/- Layer 19: what Late goes through, as a row; are offsets small; is an image one of few. Condition: the table of math/bits lies where the program's text lays it. -/
import Derived.Test.YtggjhjbcdnffnaaDoorRef19C
import Derived.Test.YtggjhjbcdnffnaaDoorSmall
namespace Go.Proofs.YtggjhjbcdnffnaaDoor
open Go.RowKit
attribute [local go_sem] Oper.semAt_some

theorem natsV_snoc (l : List Nat) (i : Nat) : natsV (l ++ [i]) = natsV l ++ [.int .i64 (i : Int)] := by simp [natsV]
set_option maxRecDepth 100000 in
set_option maxHeartbeats 2000000 in
theorem lateHelp_any (v : ImgV) (x : Img) (c : Cls) (T L : List Int) (w : World) (hTb : Tab w) (h : ImgAt w v x) (hc : c.Ok) (hT : T.length = 8) (hL : OffOk L) (hx : Small x) (hw : InW x.tasks.length c.both) (hw2 : InW x.tasks.length c.to) :
    Calls Tryd.prog 17 #[.agg (shCells v x c T L).toArray] w (RetNats w (lateL x c T L)) := by
  have hnn := fun f x y => run_neq_func_nil (P := Tryd.prog) Tryd.underlying108 f x y
  rw [← callsIn_wide (n := 9)]
  refine callsIn_of_wp_marks Tryd.func17 rfl trivial ?_ rfl
  simp only [Tryd.ntmps17, List.size_toArray, List.length_cons, List.length_nil, Nat.reduceAdd, Nat.reduceSub, Array.replicate_succ, Array.replicate_zero, List.push_toArray, List.append_toArray, List.nil_append, List.cons_append]
  obtain ⟨W1, hW1⟩ : ∃ W1, (w.alloc (.cells (shCells v x c T L).toArray 37)).alloc (.cells #[.slice none 0 0] 45) = W1 := ⟨_, rfl⟩
  have c0 : Blk W1 w.heap.size 37 (shCells v x c T L).toArray := by rw [← hW1]; exact (Blk.new _ _ _).alloc _
  have c1 : Blk W1 (w.heap.size + 1) 45 #[.slice none 0 0] := by rw [← hW1]; exact Blk.new1 _ _ _ _
  have hsz1 : W1.heap.size = w.heap.size + 2 := by rw [← hW1]; simp
  have K1 : Keep [] w W1 := by rw [← hW1]; exact ((Keep.refl _ w).alloc _).alloc _
  have HSL : Hid ((shCells v x c T L).length = 31) := shCells_len v x c hT hL.1
  have HCA : Hid (CellsAt W1 w.heap.size 0 (shCells v x c T L)) := c0.cellsAt
  have HL0 := fun w => Lib.hid (late0_any v x c T L w)
  have HSS := fun Bs W0 hw0 hBs hbs => Lib.hid (late1_seq 8 v x c T L w W0 h hTb hw0 hc hT hL hx hw hw2 Bs hBs hbs)
  have hll : (lateL x c T L).length ≤ 32 := Nat.le_trans (List.length_filter_le _ _) (bitsL_le _)
  have HLL := Lib.hid hll
  have HW := Lib.hid hW1
  clear hW1 hTb h hx hw hw2 hL
  generalize shCells v x c T L = sc at *
  gi_wp2_with (first
    | rw [HW.out]
    | (refine wpListIn_agg rfl 37 (.tmp 1) rfl rfl (cs := sc) (by rw [HSL.out]; exact agg_shift) HCA.out ?_)
    | (refine ⟨trivial, ?_⟩; gi_at_call 53; refine (callsIn_wide.2 (HL0 _).out).mono ?_; rintro e w' ⟨rfl, rfl⟩))
  obtain ⟨W0, hW0⟩ : ∃ W0, W1.alloc (.cells sc.toArray 37) = W0 := ⟨_, rfl⟩
  have hsz : W0.heap.size = w.heap.size + 3 := by rw [← hW0]; simp [hsz1]
  have b1 : Blk W0 (w.heap.size + 1) 45 #[.slice none 0 0] := by rw [← hW0]; exact c1.alloc _
  have b2 : Blk W0 (w.heap.size + 2) 37 sc.toArray := by rw [← hW0, ← hsz1]; exact Blk.new _ _ _
  have K0 : Keep [] w W0 := by rw [← hW0]; exact K1.alloc _
  simp only [hW0]
  have hss := (HSS (w.heap.size + 2) W0 K0.below (by omega) b2).out
  clear HW HCA c0 c1 K1 HSS HL0 hW0 hll
  refine wpIn_rangeT (F := Fence.wide) (n := 9) (Lo := LoN) (ps := #[11]) rfl (by omega) (gf := 84) (lb := #[.pointer (some ⟨w.heap.size + 2, 0, none⟩)]) rfl trivial (enters_of Tryd.func84 (by kernel_rfl) rfl)
    hss KpU.trans (fun W o o' h1 h2 => kpu_put o' (by omega) (by omega) h1 h2) (Below.refl _ _) (fun _ => rfl)
    (fun pre W' => ∃ V, Blk W' (w.heap.size + 1) 45 #[V] ∧ W'.ownsRow W0.heap.size 3 1 V pre.length (natsV pre) ∧ Keep [w.heap.size + 1] W0 W')
    (fun _ _ _ => False)
    (box_rowT (β := List Nat) (show w.heap.size + 1 < W0.heap.size by omega) (fun pre => pre.length) natsV) (fun _ _ _ _ _ hs _ _ => hs) ⟨_, b1, World.ownsRow_nil _ _ _ _, Keep.refl _ _⟩
    (fun i => { tmps := #[.agg sc.toArray, .pointer (some ⟨w.heap.size, 0, none⟩), .slice none 0 0, .pointer (some ⟨w.heap.size + 1, 0, none⟩), .func (.func 84) #[] #[.pointer (some ⟨w.heap.size + 2, 0, none⟩)], .int .i64 (i : Int), .agg sc.toArray,
      .func (.func 84) #[] #[.pointer (some ⟨w.heap.size + 2, 0, none⟩)], .func (.func 84) #[] #[.pointer (some ⟨w.heap.size + 2, 0, none⟩)], .bool true, .func (.func 84) #[] #[.pointer (some ⟨w.heap.size + 2, 0, none⟩)], .int .i64 (i : Int),
      undef, undef, undef, undef, undef], defers := [] }) ?assign ?body ?done ?stop
  case assign =>
    intro l i W K hK
    simp only [encN]
    gi_wp2
    exact hK
  case body =>
    rintro l pre i W ⟨V, hv, hrow, hK⟩ hpre
    have hcv := hv.cell 0
    have hcf := hv.frozen 0
    simp at hcv
    obtain ⟨A, cp, rfl⟩ := own_shape hrow
    have hne := own_blk_ne hrow hv (by decide)
    have hB : W0.heap.size ≤ W.heap.size := hK.size
    have hlen := hpre.length_le
    simp only [List.length_append, List.length_cons, List.length_nil] at hlen
    have hal := HLL.out
    gi_wp2_with (gi_at_builtin; refine wpListIn_append_one rfl (.tmp 12) (.tmp 14) 45 rfl slice_intW hrow rfl rfl (us := [.int .i64 (i : Int)]) rfl (by simp [Value.oneCell']) hB (by omega) (by unfold maxLen; omega) ?_; intro v' w1 hown1 hk1 hat1; obtain ⟨A', c', rfl⟩ := own_shape hown1; have hv1 := hv.keep hk1 (by simpa using hne); have hc1 := hv1.cell 0; have hf1 := hv1.frozen 0; simp at hc1)
    obtain ⟨n1, n2, n3⟩ := boxed_append hrow hv (by decide) hk1 hown1
    have hlt' := fun z hz => (hrow.lt z (by simpa using hz)).1
    refine ⟨n3.from (fun z hz => ?_), kpu_of n3 (fun z hz => ?_) (by omega), _, n1, ?_, ?_⟩
    · rcases List.mem_cons.1 hz with rfl | hz
      · exact .inl (by omega)
      · exact .inr (own_cells hrow z hz)
    · rcases List.mem_cons.1 hz with rfl | hz
      · exact ⟨by omega, _, _, _, hv, by decide⟩
      · obtain ⟨cs, fr, h1⟩ := row_typed hrow z hz
        exact ⟨by have := hlt' z (by simpa using hz); omega, cs, _, fr, h1, by decide⟩
    · rw [List.length_append, natsV_snoc]
      exact n2
    · exact hK.trans n3 (fun y hy hlt => by
        rcases List.mem_cons.1 hy with rfl | hy
        · simp
        · have := hlt' y (by simpa using hy); omega)
  case done =>
    rintro D W hD ⟨V, hv, hrow, hK⟩ hD2
    have hcv := hv.cell 0
    simp at hcv
    obtain ⟨A, cp, rfl⟩ := own_shape hrow
    have hne : D ∉ (Value.slice A (lateL x c T L).length cp).ownBlock.toList := fun hm => by
      obtain ⟨cs, fr, h1⟩ := row_typed hrow D hm
      rw [hD2] at h1; cases h1
    gi_wp2
    refine ⟨by simp, .inl ⟨_, _, rfl, run_takeDeferred hD2, ?_⟩⟩
    refine ⟨_, results_tmp rfl _ _ _, A, cp, rfl, ?_, ?_⟩
    · exact own_base (own_keep hrow (keep_putObj W D (.deferred none)) (fun y hy hm => hne (by simp at hm; subst hm; simpa using hy))) (by omega)
    · exact (K0.trans hK (fun y hy hlt => by simp at hy; omega)).trans (keep_putObj W D (.deferred none)) (fun y hy hlt => by simp at hy; omega)
  case stop => exact fun _ _ _ _ _ _ h _ => h.elim

/-- Are all from 0 to 2^14? -/
def offsB (L : List Int) : Bool := L.all fun z => decide (0 ≤ z) && decide (z ≤ 16384)
theorem offsB_ok {L : List Int} (h : L.length = 16) (hb : offsB L = true) : OffOk L := by
  refine ⟨h, fun z hz => ?_⟩
  have := List.all_eq_true.1 hb z hz
  simpa using this
theorem all_drop {p : Int → Bool} (l : List Int) (k : Nat) (h : k < l.length) : (l.drop k).all p = (p l[k] && (l.drop (k + 1)).all p) := by
  rw [List.drop_eq_getElem_cons h, List.all_cons]
set_option maxRecDepth 100000 in
set_option maxHeartbeats 1000000 in
theorem offs19_any (L : List Int) (w : World) (hL : L.length = 16) : Calls Tryd.prog 10 #[.agg (iv L).toArray] w fun e w' => e = .returned (.bool (offsB L)) ∧ Keep [] w w' := by
  obtain ⟨W0, hW0⟩ : ∃ W0, w.alloc (.cells (iv L).toArray 27) = W0 := ⟨_, rfl⟩
  have b0 : Blk W0 w.heap.size 27 (iv L).toArray := by rw [← hW0]; exact Blk.new _ _ _
  have K0 : Keep [] w W0 := by rw [← hW0]; exact (Keep.refl _ w).alloc _
  have HC : Hid (∀ k, (hk : k < L.length) → W0.cell? ⟨w.heap.size, k, none⟩ = some (.int .i64 L[k])) := fun k hk => b0.at_ (by unfold iv; rw [List.getElem?_map, List.getElem?_eq_getElem hk]; rfl)
  have HK := Lib.hid K0
  have HO : Hid (offsB L = L.all fun z => decide (0 ≤ z) && decide (z ≤ 16384)) := show _ = _ from rfl
  have HAD : Hid (∀ k, (hk : k < L.length) → (L.drop k).all (fun z => decide (0 ≤ z) && decide (z ≤ 16384)) = ((decide (0 ≤ L[k]) && decide (L[k] ≤ 16384)) && (L.drop (k + 1)).all (fun z => decide (0 ≤ z) && decide (z ≤ 16384)))) := fun k hk => all_drop L k hk
  have HW := Lib.hid hW0
  have HLn := Lib.hid hL
  clear b0 K0 hW0 hL
  generalize (iv L).toArray = lc at *
  go_enter Tryd.func10, Tryd.ntmps10
  go_wp2_with (rw [HW.out])
  go_loopw [3] (fun i wr => ∃ k : Nat, k ≤ 16 ∧ i = .int .i64 k ∧ Hid (offsB L = (L.drop k).all fun z => decide (0 ≤ z) && decide (z ≤ 16384)) ∧ wr = W0) (fun i _ => 16 - (intOf i).toNat)
  case atStart => exact ⟨0, Nat.zero_le _, rfl, HO.out, rfl⟩
  case round =>
    obtain ⟨k, hk, rfl, HR, rfl⟩ := hrel
    by_cases hlt : k < 16
    · have hkl : k < L.length := by rw [HLn.out]; exact hlt
      have hcell := HC.out k hkl
      have hst := HAD.out k hkl
      have p0 : (0 : Int) ≤ (k : Int) := by omega
      have p1 : (k : Int) < 16 := by omega
      generalize L[k] = z at *
      rcases Int.lt_or_le z 0 with h0 | h0
      · have HX : Hid (offsB L = false) := by show _ = _; rw [HR.out, hst, decide_eq_false (show ¬ (0 : Int) ≤ z by omega)]; rfl
        clear hst HR
        go_wp2
        go_ret
        exact ⟨by rw [HX.out]; rfl, HK.out⟩
      · rcases Int.lt_or_le 16384 z with h1 | h1
        · have HX : Hid (offsB L = false) := by show _ = _; rw [HR.out, hst, decide_eq_false (show ¬ z ≤ 16384 by omega), Bool.and_false]; rfl
          clear hst HR
          go_wp2
          go_ret
          exact ⟨by rw [HX.out]; rfl, HK.out⟩
        · have HX : Hid (offsB L = (L.drop (k + 1)).all fun z => decide (0 ≤ z) && decide (z ≤ 16384)) := by show _ = _; rw [HR.out, hst, decide_eq_true h0, decide_eq_true h1]; rfl
          clear hst HR
          go_wp2
          go_roundw
          case rel => exact ⟨k + 1, by omega, by go_num, HX, by trivial⟩
          case measure => simp [intOf] <;> omega
    · obtain rfl : k = 16 := by omega
      have HX : Hid (offsB L = true) := by show _ = _; rw [HR.out, List.drop_eq_nil_of_le (by rw [HLn.out]; omega)]; rfl
      clear HR
      go_wp2
      go_ret
      exact ⟨by rw [HX.out]; rfl, HK.out⟩

/-- An image that may be, and whose tasks don't come too far behind. -/
def perB (l : List Tsk) : Bool := l.all fun t => decide (t.per ≤ 400)
def fewB (x : Img) : Bool := !greatImg x && ((chkImg x).2 == 0 && perB x.tasks)
theorem perB_drop (l : List Tsk) (k : Nat) (h : k < l.length) : perB (l.drop k) = (decide (l[k].per ≤ 400) && perB (l.drop (k + 1))) := by
  rw [List.drop_eq_getElem_cons h]
  unfold perB
  rw [List.all_cons]
set_option maxRecDepth 100000 in
set_option maxHeartbeats 2000000 in
theorem few_any (v : ImgV) (x : Img) (w : World) (h : ImgAt w v x) : Calls Tryd.prog 9 #[.agg (imgCells v x).toArray] w fun e w' => e = .returned (.bool (fewB x)) ∧ Keep [] w w' := by
  have hl := h.lt
  unfold maxLen at hl
  obtain ⟨W0, hW0⟩ : ∃ W0, w.alloc (.cells (imgCells v x).toArray 26) = W0 := ⟨_, rfl⟩
  have b0 : Blk W0 w.heap.size 26 (imgCells v x).toArray := by rw [← hW0]; exact img_box w v x
  have K0 : Keep [] w W0 := by rw [← hW0]; exact (Keep.refl [] w).alloc _
  have HC0 : Hid (∀ w', Keep [] W0 w' → CellsAt w' w.heap.size 0 (imgCells v x)) := fun w' hk => (b0.keep0 hk).cellsAt
  have HI1 : Hid (∀ w', Keep [] W0 w' → w'.cell? ⟨w.heap.size, 1, none⟩ = some (.slice v.ta x.tasks.length v.tc)) := fun w' hk => img_c1 (b0.keep0 hk)
  have HIC : Hid ((imgCells v x).length = 4) := show _ = _ from rfl
  have HG := Lib.hid (great_any v x W0 (h.keep0 K0))
  have HRi := fun w' hk' => Lib.hid (right_any v x w' (h.keep0 (K0.then hk')))
  have HF : Hid (fewB x = (!greatImg x && ((chkImg x).2 == 0 && perB x.tasks))) := show _ = _ from rfl
  have HI := Lib.hid h
  have HL := Lib.hid hl
  have HW := Lib.hid hW0
  clear b0 h hW0 hl
  generalize imgCells v x = il at *
  generalize greatImg x = gb at *
  generalize ((chkImg x).2 == 0) = rb at *
  cases gb with
  | true =>
    have HX : Hid (fewB x = false) := by show _ = _; rw [HF.out]; rfl
    go_enter Tryd.func9, Tryd.ntmps9
    go_wp2_with (first
      | rw [HW.out]
      | (refine wpList_load_agg rfl 26 (.tmp 1) rfl rfl (cs := il) (by rw [HIC.out]; exact agg_image) (HC0.out _ (Keep.refl _ _)) ?_))
    refine HG.out.mono ?_
    rintro e w2 ⟨rfl, k2⟩
    go_wp2
    go_ret
    exact ⟨by rw [HX.out]; rfl, K0.then k2⟩
  | false =>
    cases rb with
    | false =>
      have HX : Hid (fewB x = false) := by show _ = _; rw [HF.out]; rfl
      go_enter Tryd.func9, Tryd.ntmps9
      go_wp2_with (first
        | rw [HW.out]
        | (refine wpList_load_agg rfl 26 (.tmp 1) rfl rfl (cs := il) (by rw [HIC.out]; exact agg_image) (HC0.out _ (Keep.refl _ _)) ?_))
      refine HG.out.mono ?_
      rintro e w2 ⟨rfl, k2⟩
      have hc2 := Lib.hid (HC0.out w2 k2)
      go_wp2_with (refine wpList_agg_gd rfl 26 (.tmp 1) rfl rfl (cs := il) (by rw [HIC.out]; exact agg_image) hc2.out ?_)
      refine (HRi _ k2).out.mono ?_
      rintro e w3 ⟨rfl, k3⟩
      go_wp2
      go_ret
      exact ⟨by rw [HX.out]; rfl, (K0.then k2).then k3⟩
    | true =>
      have HX : Hid (fewB x = perB x.tasks) := by show _ = _; rw [HF.out]; rfl
      go_enter Tryd.func9, Tryd.ntmps9
      go_wp2_with (first
        | rw [HW.out]
        | (refine wpList_load_agg rfl 26 (.tmp 1) rfl rfl (cs := il) (by rw [HIC.out]; exact agg_image) (HC0.out _ (Keep.refl _ _)) ?_))
      refine HG.out.mono ?_
      rintro e w2 ⟨rfl, k2⟩
      have hc2 := Lib.hid (HC0.out w2 k2)
      go_wp2_with (refine wpList_agg_gd rfl 26 (.tmp 1) rfl rfl (cs := il) (by rw [HIC.out]; exact agg_image) hc2.out ?_)
      refine (HRi _ k2).out.mono ?_
      rintro e w3 ⟨rfl, k3⟩
      have hct := HI1.out w3 (k2.then k3)
      have HK3 := Lib.hid (K0.then (k2.then k3))
      clear HG HRi HF HC0 HI1 hc2 k2 k3 K0
      go_wp2
      go_loopw [3] (fun i wr => ∃ k : Nat, k ≤ x.tasks.length ∧ i = .int .i64 k ∧ Hid (perB x.tasks = perB (x.tasks.drop k)) ∧ wr = w3) (fun i _ => x.tasks.length - (intOf i).toNat)
      case atStart => exact ⟨0, Nat.zero_le _, rfl, rfl, rfl⟩
      case round =>
        obtain ⟨k, hk, rfl, HR, rfl⟩ := hrel
        have hl := HL.out
        by_cases hlt : k < x.tasks.length
        · obtain ⟨b, o, hA, hbw, hcs⟩ := HI.out.task (by omega)
          have hp := ((hcs k hlt).keep0 HK3.out hbw) 0 (.int .i64 x.tasks[k].per) rfl
          have hst := perB_drop x.tasks k hlt
          rw [Nat.add_zero] at hp
          rw [hA] at hct
          have p0 : (0 : Int) ≤ (k : Int) := by omega
          have p1 : (k : Int) < (x.tasks.length : Int) := by omega
          have p2 : decide ((k : Int) < (x.tasks.length : Int)) = true := by simp; omega
          clear hcs
          generalize x.tasks[k].per = z at *
          rcases Int.lt_or_le 400 z with h1 | h1
          · have HX2 : Hid (fewB x = false) := by show _ = _; rw [HX.out, HR.out, hst, decide_eq_false (show ¬ z ≤ 400 by omega)]; rfl
            clear hst HR
            go_wp2
            go_ret
            exact ⟨by rw [HX2.out]; rfl, HK3.out⟩
          · have HX2 : Hid (perB x.tasks = perB (x.tasks.drop (k + 1))) := by show _ = _; rw [HR.out, hst, decide_eq_true h1]; rfl
            clear hst HR
            go_wp2
            go_roundw
            case rel => exact ⟨k + 1, by omega, by go_num, HX2, by trivial⟩
            case measure => simp [intOf] <;> omega
        · obtain rfl : k = x.tasks.length := by omega
          have HX2 : Hid (fewB x = true) := by show _ = _; rw [HX.out, HR.out, List.drop_length]; rfl
          have p2 : decide ((x.tasks.length : Int) < (x.tasks.length : Int)) = false := by simp
          clear HR
          go_wp2
          go_ret
          exact ⟨by rw [HX2.out]; rfl, HK3.out⟩
end Go.Proofs.YtggjhjbcdnffnaaDoor
