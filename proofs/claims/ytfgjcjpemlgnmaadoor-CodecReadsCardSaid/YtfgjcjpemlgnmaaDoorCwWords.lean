/- codec's iterator hands on the words of an image. Condition: the table of math/bits lies where the program's text lays it. -/
import Derived.Test.YtfgjcjpemlgnmaaDoorCwEdge
namespace Go.Proofs.YtfgjcjpemlgnmaaDoor
open Go.RowKit
attribute [local go_sem] Oper.semAt_some

theorem fm_take {α β : Type} (f : α → List β) (l : List α) (k : Nat) (hk : k < l.length) : (l.take (k + 1)).flatMap f = (l.take k).flatMap f ++ f l[k] := by
  rw [List.take_succ_eq_append_getElem hk, List.flatMap_append]
  simp
theorem fm_split {α β : Type} (f : α → List β) (l : List α) (k : Nat) (hk : k < l.length) : l.flatMap f = (l.take k).flatMap f ++ (f l[k] ++ (l.drop (k + 1)).flatMap f) := by
  conv => lhs; rw [← List.take_append_drop k l, List.drop_eq_getElem_cons hk]
  rw [List.flatMap_append, List.flatMap_cons]

theorem words_any (il : List Value) (w : World) : Calls Tryd.prog 16 #[.agg il.toArray] w fun e w' =>
    e = .returned (.func (.func 36) #[] #[.pointer (some ⟨w.heap.size, 0, none⟩)]) ∧ w.alloc (.cells il.toArray 26) = w' := by
  generalize il.toArray = cs
  go_enter Tryd.func16, Tryd.ntmps16
  go_wp2
  go_ret
  exact ⟨rfl, rfl⟩

set_option maxRecDepth 100000 in
set_option maxHeartbeats 2000000 in
theorem words1_seq (n : Nat) (v : ImgV) (x : Img) (w0 w : World) (hx : ImgAt w0 v x) (hT : Tab w0) (hw0 : Below w0.heap.size w0 w) (hfr : ∀ i, (hi : i < x.edges.length) → ∀ k ∈ bitsL (freshN x x.edges[i]), k < 16) (B : Nat) (hB : B < w.heap.size) (hb : Blk w B 26 (imgCells v x).toArray) :
    SeqT Fence.wide n Tryd.prog (LoW w.heap.size) 36 #[.pointer (some ⟨B, 0, none⟩)] encZ (KpW w0.heap.size (w.heap.size + 2)) (wordsI x) w := by
  intro l J Jx W hW hge hJ hJx hY h0
  have hB0 : w0.heap.size ≤ W.heap.size := by have := hw0.size; omega
  have hw : Below w0.heap.size w0 W := hw0.trans (hW.mono hw0.size)
  have hR : Rounds l (KpW w0.heap.size (w.heap.size + 2)) (wordsI x) J Jx := fun m pre y W1 hj hp => yieldAt_any open_wide (hY pre y W1 hj hp)
  have hbW : Blk W B 26 (imgCells v x).toArray := (hW.block B hB).trans hb
  clear hY
  have HSF : Hid (∀ w', Blk w' B 26 (imgCells v x).toArray → w'.cell? ⟨B, 0, none⟩ = some (.int .i64 x.res) ∧ w'.cell? ⟨B, 1, none⟩ = some (.slice v.ta x.tasks.length v.tc) ∧ w'.cell? ⟨B, 2, none⟩ = some (.slice v.ma x.modes.length v.mc) ∧ w'.cell? ⟨B, 3, none⟩ = some (.slice v.ea x.edges.length v.ec)) :=
    fun w' h => ⟨by rw [h.cell]; rfl, by rw [h.cell]; rfl, by rw [h.cell]; rfl, by rw [h.cell]; rfl⟩
  have HX := Lib.hid hx
  have HT := Lib.hid hT
  have HFR := Lib.hid hfr
  have HWI : Hid (wordsI x = headI x ++ (x.tasks.flatMap wordsT ++ (x.modes.flatMap wordsM ++ x.edges.flatMap (wordsE x)))) := show _ = _ from rfl
  have hl1 := hx.lt
  have hl2 := hx.lm
  have hl3 := hx.le
  unfold maxLen at hl1 hl2 hl3
  obtain ⟨f0, f1, f2, f3⟩ := HSF.out _ hbW
  clear hx hT hfr hb
  rw [callsIn_wide, ← callsIn_wide (n := 9)]
  refine callsIn_of_wp Tryd.func36 rfl trivial ?_ rfl
  simp only [Tryd.ntmps36, List.size_toArray, List.length_cons, List.length_nil, Nat.reduceAdd, Nat.reduceSub, Array.replicate_succ, Array.replicate_zero, List.push_toArray, List.append_toArray, List.nil_append, List.cons_append]
  obtain ⟨fn, tmps, assign, body, hy, hr⟩ := hR.next 8 [] _ 1380273457 rfl h0
  gi_wp2
  refine hr.mono ?_
  rintro e w1 (⟨rfl, j1, kr⟩ | ⟨rfl, jx, kr⟩)
  rotate_left
  · gi_wp2
    refine ⟨fun _ h => (by cases h), ?_⟩
    gi_wp2
    refine bodyPost_ret (results_none rfl _ _ _) rfl ?_
    refine ⟨⟨_, rfl⟩, .inr ⟨_, ?_, jx⟩⟩
    exact ⟨_, rfl⟩
  have b1 := kr.blk hbW (by decide)
  have k1 : KpW w0.heap.size (w.heap.size + 2) W w1 := kr
  obtain ⟨f0, f1, f2, f3⟩ := HSF.out _ b1
  clear hy hr kr
  obtain ⟨fn, tmps, assign, body, hy, hr⟩ := hR.next 8 [1380273457] _ x.res rfl j1
  gi_wp2
  refine hr.mono ?_
  rintro e w2 (⟨rfl, j2, kr⟩ | ⟨rfl, jx, kr⟩)
  rotate_left
  · gi_wp2
    refine ⟨fun _ h => (by cases h), ?_⟩
    gi_wp2
    refine bodyPost_ret (results_none rfl _ _ _) rfl ?_
    refine ⟨⟨_, rfl⟩, .inr ⟨_, ?_, jx⟩⟩
    exact ⟨_, rfl⟩
  have b2 := kr.blk b1 (by decide)
  have k2 : KpW w0.heap.size (w.heap.size + 2) W w2 := k1.trans kr
  obtain ⟨f0, f1, f2, f3⟩ := HSF.out _ b2
  clear hy hr kr
  obtain ⟨fn, tmps, assign, body, hy, hr⟩ := hR.next 8 [1380273457, x.res] _ (x.tasks.length : Int) rfl j2
  gi_wp2
  refine hr.mono ?_
  rintro e w3 (⟨rfl, j3, kr⟩ | ⟨rfl, jx, kr⟩)
  rotate_left
  · gi_wp2
    refine ⟨fun _ h => (by cases h), ?_⟩
    gi_wp2
    refine bodyPost_ret (results_none rfl _ _ _) rfl ?_
    refine ⟨⟨_, rfl⟩, .inr ⟨_, ?_, jx⟩⟩
    exact ⟨_, rfl⟩
  have b3 := kr.blk b2 (by decide)
  have k3 : KpW w0.heap.size (w.heap.size + 2) W w3 := k2.trans kr
  obtain ⟨f0, f1, f2, f3⟩ := HSF.out _ b3
  clear hy hr kr
  obtain ⟨fn, tmps, assign, body, hy, hr⟩ := hR.next 8 [1380273457, x.res, (x.tasks.length : Int)] _ (x.modes.length : Int) rfl j3
  gi_wp2
  refine hr.mono ?_
  rintro e w4 (⟨rfl, j4, kr⟩ | ⟨rfl, jx, kr⟩)
  rotate_left
  · gi_wp2
    refine ⟨fun _ h => (by cases h), ?_⟩
    gi_wp2
    refine bodyPost_ret (results_none rfl _ _ _) rfl ?_
    refine ⟨⟨_, rfl⟩, .inr ⟨_, ?_, jx⟩⟩
    exact ⟨_, rfl⟩
  have b4 := kr.blk b3 (by decide)
  have k4 : KpW w0.heap.size (w.heap.size + 2) W w4 := k3.trans kr
  obtain ⟨f0, f1, f2, f3⟩ := HSF.out _ b4
  clear hy hr kr
  obtain ⟨fn, tmps, assign, body, hy, hr⟩ := hR.next 8 [1380273457, x.res, (x.tasks.length : Int), (x.modes.length : Int)] _ (x.edges.length : Int) rfl j4
  gi_wp2
  refine hr.mono ?_
  rintro e w5 (⟨rfl, j5, kr⟩ | ⟨rfl, jx, kr⟩)
  rotate_left
  · gi_wp2
    refine bodyPost_ret (results_none rfl _ _ _) rfl ?_
    refine ⟨⟨_, rfl⟩, .inr ⟨_, ?_, jx⟩⟩
    exact ⟨_, rfl⟩
  have b5 := kr.blk b4 (by decide)
  have k5 : KpW w0.heap.size (w.heap.size + 2) W w5 := k4.trans kr
  obtain ⟨f0, f1, f2, f3⟩ := HSF.out _ b5
  clear hy hr kr
  clear b1 b2 b3 b4 k1 k2 k3 k4 j1 j2 j3 j4 h0 hbW
  gi_wp2
  have HM1 : Hid (∀ k, (hk : k < x.tasks.length) → (headI x ++ (x.tasks.take k).flatMap wordsT) ++ wordsT x.tasks[k] <+: wordsI x) := fun k hk => by
    refine ⟨(x.tasks.drop (k + 1)).flatMap wordsT ++ (x.modes.flatMap wordsM ++ x.edges.flatMap (wordsE x)), ?_⟩
    rw [HWI.out, fm_split wordsT x.tasks k hk]
    simp only [List.append_assoc]
  have HM2 : Hid (∀ k, (hk : k < x.modes.length) → (headI x ++ (x.tasks.flatMap wordsT ++ (x.modes.take k).flatMap wordsM)) ++ wordsM x.modes[k] <+: wordsI x) := fun k hk => by
    refine ⟨(x.modes.drop (k + 1)).flatMap wordsM ++ x.edges.flatMap (wordsE x), ?_⟩
    rw [HWI.out, fm_split wordsM x.modes k hk]
    simp only [List.append_assoc]
  have HM3 : Hid (∀ k, (hk : k < x.edges.length) → (headI x ++ (x.tasks.flatMap wordsT ++ (x.modes.flatMap wordsM ++ (x.edges.take k).flatMap (wordsE x)))) ++ wordsE x x.edges[k] <+: wordsI x) := fun k hk => by
    refine ⟨(x.edges.drop (k + 1)).flatMap (wordsE x), ?_⟩
    rw [HWI.out, fm_split (wordsE x) x.edges k hk]
    simp only [List.append_assoc]
  gi_loopw [45] (fun vi wr => ∃ k : Nat, k ≤ x.tasks.length ∧ vi = .int .i64 (k : Int) ∧ J (headI x ++ (x.tasks.take k).flatMap wordsT) wr ∧ Blk wr B 26 (imgCells v x).toArray ∧ KpW w0.heap.size (w.heap.size + 2) W wr) (fun i _ => x.tasks.length - (intOf i).toNat)
  case atStart => exact ⟨0, Nat.zero_le _, rfl, by simpa [headI] using j5, b5, k5⟩
  case round =>
    obtain ⟨k, hk, rfl, hj, hbr, hkr⟩ := hrel
    by_cases hlt : k < x.tasks.length
    · have HI := HX.out.keep0 (keep_of_below (hw.trans hkr.below))
      obtain ⟨tb, to, hA, htb, hcs2⟩ := HI.task (by omega)
      have hq := Lib.hid (hcs2 k hlt)
      have hl8 := HX.out.ok.lon _ (List.getElem_mem hlt)
      have HTC : Hid ((tskCells x.tasks[k]).length = 11) := tskCells_len hl8
      have hone : ∀ u, u ∈ tskCells x.tasks[k] → u.oneCell' = true := iv_one _
      obtain ⟨V, hV⟩ : ∃ V, wr.alloc (.cells (List.replicate 11 (.int .i64 0)).toArray 57) = V := ⟨_, rfl⟩
      have KV : Keep [] wr V := by rw [← hV]; exact (Keep.refl _ wr).alloc _
      have bV : Blk V wr.heap.size 57 (List.replicate 11 (.int .i64 0)).toArray := by rw [← hV]; exact Blk.new _ _ _
      have hst := run_storeCells_blk (P := Tryd.prog) (tskCells x.tasks[k]) ⟨wr.heap.size, 0, none⟩ 0 0 rfl bV hone (by rw [HTC.out]; simp)
      obtain ⟨d1, K1⟩ := storeRow_blk (tskCells x.tasks[k]) 0 bV
      rw [splice_all (tskCells x.tasks[k]) _ (by rw [HTC.out]; simp)] at d1
      rw [Nat.add_zero] at hst
      generalize storeRow V wr.heap.size 0 (tskCells x.tasks[k]) = w6 at *
      have hwz := hkr.below.size
      have j6 : J (headI x ++ (x.tasks.take k).flatMap wordsT) w6 := hJ.keep1 (hJ.keep0 hj KV) (by omega) K1 bV (by decide)
      have k6 := (hkr.step KV (by simp) hB0).step K1 (by simp; omega) hB0
      have b6 : Blk w6 B 26 (imgCells v x).toArray := (hbr.keep KV (by simp)).keep K1 (by simp; have := hbr.lt; omega)
      have hz6 := k6.below.size
      have hsuc := Lib.hid (fm_take wordsT x.tasks k hlt)
      have HH := Lib.hid (task_hands x.tasks[k] hl8 l w0.heap.size (w.heap.size + 2) _ _ w6 (by omega) (by omega) (by omega) ((hJ.mono hz6).shift (headI x ++ (x.tasks.take k).flatMap wordsT)) ((hJx.mono hz6).shift (headI x ++ (x.tasks.take k).flatMap wordsT)) (hR.shift _ (HM1.out k hlt)) (by simpa using j6))
      have HP := Lib.hid (HM1.out k hlt)
      have hV' : wr.alloc (.cells #[.int .i64 0, .int .i64 0, .int .i64 0, .int .i64 0, .int .i64 0, .int .i64 0, .int .i64 0, .int .i64 0, .int .i64 0, .int .i64 0, .int .i64 0] 57) = V := hV
      have HV := Lib.hid hV'
      have hcd := Lib.hid d1.cellsAt
      obtain ⟨f0, f1, f2, f3⟩ := HSF.out _ hbr
      have hk1 : (k : Int) < (x.tasks.length : Int) := by omega
      have hk0 : (0 : Int) ≤ (k : Int) := by omega
      rw [hA] at *
      clear hV hV' bV KV K1 hcs2 hone d1 HI
      generalize x.tasks[k] = tk at *
      generalize tskCells tk = tc at *
      gi_wp2_with (first
        | rw [HV.out]
        | (refine wpListIn_agg rfl 57 (.tmp 47) rfl rfl (cs := tc) (by rw [HTC.out]; exact agg_task) hq.out ?_)
        | (refine wpListIn_agg rfl 57 (.tmp 4) rfl rfl (cs := tc) (by rw [HTC.out]; exact agg_task) hcd.out ?_)
        | (refine ⟨trivial, ?_⟩; gi_at_call 37; refine (callsIn_wide.2 HH.out).mono ?_; clear HH; rintro e w7 (⟨rfl, j7, kr⟩ | ⟨rfl, q, hq7, jx⟩)))
      · refine ⟨⟨k + 1, by omega, by go_num, by rw [hsuc.out]; simpa using j7, kr.blk b6 (by decide), k6.trans kr⟩, ?_⟩
        simp [intOf]
        omega
      · refine bodyPost_ret (results_none rfl _ _ _) rfl ?_
        exact ⟨⟨_, rfl⟩, .inr ⟨_, ((List.prefix_append_right_inj _).2 hq7).trans HP.out, jx⟩⟩
    · obtain rfl : k = x.tasks.length := by omega
      rw [List.take_length] at hj
      obtain ⟨f0, f1, f2, f3⟩ := HSF.out _ hbr
      gi_wp2
      gi_loopw [57] (fun vi wr => ∃ k : Nat, k ≤ x.modes.length ∧ vi = .int .i64 (k : Int) ∧ J (headI x ++ (x.tasks.flatMap wordsT ++ (x.modes.take k).flatMap wordsM)) wr ∧ Blk wr B 26 (imgCells v x).toArray ∧ KpW w0.heap.size (w.heap.size + 2) W wr) (fun i _ => x.modes.length - (intOf i).toNat)
      case atStart => exact ⟨0, Nat.zero_le _, rfl, by simpa using hj, hbr, hkr⟩
      case round =>
        clear hj hbr hkr hlt hk f0 f1 f2 f3
        obtain ⟨k, hk, rfl, hj, hbr, hkr⟩ := hrel
        by_cases hlt : k < x.modes.length
        · have hkw := keep_of_below (hw.trans hkr.below)
          obtain ⟨mb, mo, hA, hmb, hcs2⟩ := HX.out.mode (by omega)
          obtain ⟨qA, qc, hq0, hrd⟩ := hcs2 k hlt
          have hq := Lib.hid (hq0.keep0 hkw hmb)
          have hlq := HX.out.lq _ (List.getElem_mem hlt)
          have hset := HX.out.ok.set _ (List.getElem_mem hlt)
          obtain ⟨V, hV⟩ : ∃ V, wr.alloc (.cells #[.int .u32 (x.modes[k].set : Int), .slice qA x.modes[k].qs.length qc] 47) = V := ⟨_, rfl⟩
          have KV : Keep [] wr V := by rw [← hV]; exact (Keep.refl _ wr).alloc _
          have dV : Blk V wr.heap.size 47 #[.int .u32 (x.modes[k].set : Int), .slice qA x.modes[k].qs.length qc] := by rw [← hV]; exact Blk.new _ _ _
          have j6 := hJ.keep0 hj KV
          have k6 := hkr.step KV (by simp) hB0
          have b6 : Blk V B 26 (imgCells v x).toArray := hbr.keep KV (by simp)
          have hz6 := k6.below.size
          have hsuc := Lib.hid (fm_take wordsM x.modes k hlt)
          have HH := Lib.hid (mode_hands x.modes[k] qA qc w0 hrd hlq hset l (w.heap.size + 2) _ _ V (hw.trans k6.below) (by omega) (by omega) ((hJ.mono hz6).shift (headI x ++ (x.tasks.flatMap wordsT ++ (x.modes.take k).flatMap wordsM))) ((hJx.mono hz6).shift (headI x ++ (x.tasks.flatMap wordsT ++ (x.modes.take k).flatMap wordsM))) (hR.shift _ (HM2.out k hlt)) (by simpa using j6))
          have HP := Lib.hid (HM2.out k hlt)
          have HV := Lib.hid hV
          have hcd : Hid (CellsAt V wr.heap.size 0 [.int .u32 (x.modes[k].set : Int), .slice qA x.modes[k].qs.length qc]) := dV.cellsAt
          obtain ⟨f0, f1, f2, f3⟩ := HSF.out _ hbr
          have hk1 : (k : Int) < (x.modes.length : Int) := by omega
          have hk0 : (0 : Int) ≤ (k : Int) := by omega
          rw [hA] at *
          simp only [mddCells] at HH
          clear hV KV hcs2 dV hq0 hrd hlq hset
          generalize x.modes[k] = mk at *
          generalize mk.qs.length = qn at *
          generalize hms : (mk.set : Int) = ms at *
          gi_wp2_with (first
            | rw [HV.out]
            | (refine wpListIn_agg rfl 47 (.tmp 59) rfl rfl (cs := [.int .u32 ms, .slice qA qn qc]) agg_mode hq.out ?_)
            | (refine wpListIn_agg rfl 47 (.tmp 6) rfl rfl (cs := [.int .u32 ms, .slice qA qn qc]) agg_mode hcd.out ?_)
            | (refine ⟨trivial, ?_⟩; gi_at_call 38; refine (callsIn_wide.2 HH.out).mono ?_; clear HH; rintro e w7 (⟨rfl, j7, kr⟩ | ⟨rfl, q, hq7, jx⟩)))
          · refine ⟨⟨k + 1, by omega, by go_num, by rw [hsuc.out]; simpa using j7, kr.blk b6 (by decide), k6.trans kr⟩, ?_⟩
            simp [intOf]
            omega
          · refine bodyPost_ret (results_none rfl _ _ _) rfl ?_
            exact ⟨⟨_, rfl⟩, .inr ⟨_, ((List.prefix_append_right_inj _).2 hq7).trans HP.out, jx⟩⟩
        · obtain rfl : k = x.modes.length := by omega
          rw [List.take_length] at hj
          obtain ⟨f0, f1, f2, f3⟩ := HSF.out _ hbr
          gi_wp2
          gi_loopw [69] (fun vi wr => ∃ k : Nat, k ≤ x.edges.length ∧ vi = .int .i64 (k : Int) ∧ J (headI x ++ (x.tasks.flatMap wordsT ++ (x.modes.flatMap wordsM ++ (x.edges.take k).flatMap (wordsE x)))) wr ∧ Blk wr B 26 (imgCells v x).toArray ∧ KpW w0.heap.size (w.heap.size + 2) W wr) (fun i _ => x.edges.length - (intOf i).toNat)
          case atStart => exact ⟨0, Nat.zero_le _, rfl, by simpa using hj, hbr, hkr⟩
          case round =>
            clear hj hbr hkr hlt hk f0 f1 f2 f3
            obtain ⟨k, hk, rfl, hj, hbr, hkr⟩ := hrel
            by_cases hlt : k < x.edges.length
            · have hz6 := hkr.below.size
              have hsuc := Lib.hid (fm_take (wordsE x) x.edges k hlt)
              have HH := Lib.hid (edge_hands v x w0 HX.out HT.out k hlt (HFR.out k hlt) l (w.heap.size + 2) _ _ wr (hw.trans hkr.below) (by omega) (by omega) ((hJ.mono hz6).shift (headI x ++ (x.tasks.flatMap wordsT ++ (x.modes.flatMap wordsM ++ (x.edges.take k).flatMap (wordsE x))))) ((hJx.mono hz6).shift (headI x ++ (x.tasks.flatMap wordsT ++ (x.modes.flatMap wordsM ++ (x.edges.take k).flatMap (wordsE x))))) (hR.shift _ (HM3.out k hlt)) (by simpa using hj))
              have HP := Lib.hid (HM3.out k hlt)
              have hcd := Lib.hid hbr.cellsAt
              have HIL : Hid ((imgCells v x).length = 4) := show _ = _ from rfl
              generalize imgCells v x = il at *
              gi_wp2_with (first
                | (refine wpListIn_agg rfl 26 (.tmp 1) rfl rfl (cs := il) (by rw [HIL.out]; exact agg_image) hcd.out ?_)
                | (refine ⟨trivial, ?_⟩; gi_at_call 39; refine (callsIn_wide.2 HH.out).mono ?_; clear HH; rintro e w7 (⟨rfl, j7, kr⟩ | ⟨rfl, q, hq7, jx⟩)))
              · refine ⟨⟨k + 1, by omega, by go_num, by rw [hsuc.out]; simpa using j7, kr.blk hbr (by decide), hkr.trans kr⟩, ?_⟩
                simp [intOf]
                omega
              · refine bodyPost_ret (results_none rfl _ _ _) rfl ?_
                exact ⟨⟨_, rfl⟩, .inr ⟨_, ((List.prefix_append_right_inj _).2 hq7).trans HP.out, jx⟩⟩
            · obtain rfl : k = x.edges.length := by omega
              rw [List.take_length] at hj
              gi_wp2
              go_end0
              exact ⟨⟨_, rfl⟩, .inl (by rw [HWI.out]; exact hj)⟩
end Go.Proofs.YtfgjcjpemlgnmaaDoor
