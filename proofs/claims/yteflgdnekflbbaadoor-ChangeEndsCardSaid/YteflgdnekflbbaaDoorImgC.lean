/- Which images may be, where and why others may not: the program's own answer. -/
import Derived.Test.YteflgdnekflbbaaDoorImgG
namespace Go.Proofs.YteflgdnekflbbaaDoor
open Go.RowKit

theorem firstMode_append (all : Nat) : ∀ (l m : List Mdd) (i : Nat), firstMode all i (l ++ m) = match firstMode all i l with | some j => some j | none => firstMode all (i + l.length) m
  | [], m, i => rfl
  | a :: l, m, i => by
    rw [List.cons_append, firstMode, firstMode]
    cases mddErr all a with
    | none => simp only; rw [firstMode_append all l m (i + 1), List.length_cons, show i + 1 + l.length = i + (l.length + 1) by omega]
    | some e => rfl
theorem firstMode_step {all : Nat} {l : List Mdd} {k : Nat} (hk : k < l.length) (h : firstMode all 0 (l.take k) = none) (ho : mddErr all l[k] = none) : firstMode all 0 (l.take (k + 1)) = none := by
  rw [List.take_succ_eq_append_getElem hk, firstMode_append, h]
  simp only [firstMode, ho]
theorem firstMode_at {all : Nat} {l : List Mdd} {k : Nat} (hk : k < l.length) (h : firstMode all 0 (l.take k) = none) {e : Int} (ho : mddErr all l[k] = some e) : firstMode all 0 l = some (k, e) := by
  have e1 : l = l.take k ++ l.drop k := (List.take_append_drop k l).symm
  rw [e1, firstMode_append, h, List.drop_eq_getElem_cons hk]
  have e2 : 0 + (l.take k).length = k := by rw [List.length_take]; omega
  simp only [e2, firstMode, ho]
theorem firstMode_all {all : Nat} {l : List Mdd} {k : Nat} (hk : l.length ≤ k) (h : firstMode all 0 (l.take k) = none) : firstMode all 0 l = none := by rwa [List.take_of_length_le hk] at h
theorem firstMode_ok {all : Nat} : ∀ {l : List Mdd} {i : Nat}, firstMode all i l = none → ∀ m ∈ l, mddErr all m = none
  | [], _, _, m, hm => by simp at hm
  | a :: l, i, h, m, hm => by
    rw [firstMode] at h
    cases ha : mddErr all a with
    | none =>
      rw [ha] at h
      rcases List.mem_cons.1 hm with rfl | hm
      · exact ha
      · exact firstMode_ok h m hm
    | some e => rw [ha] at h; cases h
theorem mddErr_ok {all : Nat} {m : Mdd} (h : mddErr all m = none) : quesOk m.qs = true ∧ m.set ||| all = all := by
  unfold mddErr at h
  split at h
  · rename_i h1
    split at h
    · rename_i h2; exact ⟨h2, h1⟩
    · cases h
  · cases h
theorem quesOk_le {l : List Que} (h : quesOk l = true) : l.length ≤ 4 := by
  unfold quesOk at h
  simp at h
  exact h.1
theorem or_andNot (s all : Nat) (hs : s < 4294967296) (ha : all < 4294967296) : (minusN s all = 0) ↔ (s ||| all = all) := by
  constructor
  · intro h
    apply Nat.eq_of_testBit_eq
    intro i
    have := congrArg (fun x => x.testBit i) h
    simp only [minusN_testBit s all i hs ha, Nat.zero_testBit] at this
    rw [Nat.testBit_or]
    cases hx : s.testBit i <;> cases hy : all.testBit i <;> simp_all
  · intro h
    apply Nat.eq_of_testBit_eq
    intro i
    have := congrArg (fun x => x.testBit i) h
    simp only [Nat.testBit_or] at this
    rw [minusN_testBit s all i hs ha, Nat.zero_testBit]
    cases hx : s.testBit i <;> cases hy : all.testBit i <;> simp_all
def chkRes (r : Int × Int) : Value := .tuple #[.int .i64 r.1, .int .i64 r.2]
theorem tsk_one (t : Tsk) : ∀ u ∈ tskCells t, u.oneCell' = true := iv_one _

section
variable {x : Img}
theorem chk1 (h : inR x.res 0 8 = false) : chkImg x = (0, 103) := by unfold chkImg; rw [if_pos h]
theorem chk2 (h : inR x.res 0 8 = true) (h2 : inR x.tasks.length 1 16 = false) : chkImg x = ((x.tasks.length : Int), 100) := by unfold chkImg; rw [if_neg (by simp [h]), if_pos h2]
theorem chk3 (h : inR x.res 0 8 = true) (h2 : inR x.tasks.length 1 16 = true) {k : Nat} (h3 : firstBad (fun _ t => tskOk t x.res) 0 x.tasks = some k) : chkImg x = ((k : Int), 100) := by
  unfold chkImg; rw [if_neg (by simp [h]), if_neg (by simp [h2]), h3]
theorem chk4 (h : inR x.res 0 8 = true) (h2 : inR x.tasks.length 1 16 = true) (h3 : firstBad (fun _ t => tskOk t x.res) 0 x.tasks = none) (h4 : inR x.modes.length 1 8 = false) : chkImg x = ((x.modes.length : Int), 101) := by
  unfold chkImg; rw [if_neg (by simp [h]), if_neg (by simp [h2]), h3]; simp only; rw [if_pos h4]
theorem chk5 (h : inR x.res 0 8 = true) (h2 : inR x.tasks.length 1 16 = true) (h3 : firstBad (fun _ t => tskOk t x.res) 0 x.tasks = none) (h4 : inR x.modes.length 1 8 = true) {k : Nat} {e : Int}
    (h5 : firstMode (allSet x.tasks.length) 0 x.modes = some (k, e)) : chkImg x = ((k : Int), e) := by
  unfold chkImg; rw [if_neg (by simp [h]), if_neg (by simp [h2]), h3]; simp only; rw [if_neg (by simp [h4]), h5]
theorem chk6 (h : inR x.res 0 8 = true) (h2 : inR x.tasks.length 1 16 = true) (h3 : firstBad (fun _ t => tskOk t x.res) 0 x.tasks = none) (h4 : inR x.modes.length 1 8 = true)
    (h5 : firstMode (allSet x.tasks.length) 0 x.modes = none) (h6 : 24 < x.edges.length) : chkImg x = ((x.edges.length : Int), 102) := by
  unfold chkImg; rw [if_neg (by simp [h]), if_neg (by simp [h2]), h3]; simp only; rw [if_neg (by simp [h4]), h5]; simp only; rw [if_pos h6]
theorem chk7 (h : inR x.res 0 8 = true) (h2 : inR x.tasks.length 1 16 = true) (h3 : firstBad (fun _ t => tskOk t x.res) 0 x.tasks = none) (h4 : inR x.modes.length 1 8 = true)
    (h5 : firstMode (allSet x.tasks.length) 0 x.modes = none) (h6 : x.edges.length ≤ 24) {k : Nat} (h7 : firstBad (fun i e => edgOk x i e) 0 x.edges = some k) : chkImg x = ((k : Int), 102) := by
  unfold chkImg; rw [if_neg (by simp [h]), if_neg (by simp [h2]), h3]; simp only; rw [if_neg (by simp [h4]), h5]; simp only; rw [if_neg (by omega), h7]
theorem chk8 (h : inR x.res 0 8 = true) (h2 : inR x.tasks.length 1 16 = true) (h3 : firstBad (fun _ t => tskOk t x.res) 0 x.tasks = none) (h4 : inR x.modes.length 1 8 = true)
    (h5 : firstMode (allSet x.tasks.length) 0 x.modes = none) (h6 : x.edges.length ≤ 24) (h7 : firstBad (fun i e => edgOk x i e) 0 x.edges = none) : chkImg x = (0, 0) := by
  unfold chkImg; rw [if_neg (by simp [h]), if_neg (by simp [h2]), h3]; simp only; rw [if_neg (by simp [h4]), h5]; simp only; rw [if_neg (by omega), h7]
end

set_option maxRecDepth 100000 in
set_option maxHeartbeats 3000000 in
theorem check_any (v : ImgV) (x : Img) (w : World) (h : ImgAt w v x) :
    Calls Tryd.prog 25 #[.agg (imgCells v x).toArray] w fun e w' => e = .returned (chkRes (chkImg x)) ∧ Keep [] w w' := by
  have hlt := h.lt
  have hlm := h.lm
  have hle := h.le
  have hlq := Lib.hid h.lq
  unfold maxLen at hlt hlm hle
  have hb := img_box w v x
  have K0 := (Keep.refl [] w).alloc (.cells (imgCells v x).toArray 26)
  have hof := Lib.hid h.ok
  have htk := h.task
  have hmd := h.mode
  have HIL : Hid ((imgCells v x).length = 4) := show _ = _ from rfl
  have HAll := fun W => Lib.hid (all_any v x W h.lt)
  have HEd := fun i W hk hi hq hn => Lib.hid (edgeOk_any v x i W (h.keep0 hk) hi hq hn)
  have hc := fun {W : World} (hW : Blk W w.heap.size 26 (imgCells v x).toArray) => And.intro (img_c0 hW) (And.intro (img_c1 hW) (And.intro (img_c2 hW) (img_c3 hW)))
  obtain ⟨c0, c1, c2, c3⟩ := hc hb
  clear h
  generalize imgCells v x = il at *
  by_cases hr : inR x.res 0 8 = false
  · have HR : Hid (chkRes (chkImg x) = .tuple #[.int .i64 0, .int .i64 103]) := by show _ = _; rw [chk1 hr]; rfl
    have hr2 : x.res < 0 ∨ (0 ≤ x.res ∧ 8 < x.res) := by unfold inR at hr; simp at hr; omega
    clear hr
    generalize x.res = rs at *
    rcases hr2 with g | ⟨g, g2⟩
    all_goals
      go_enter Tryd.func25, Tryd.ntmps25
      go_wp2
      go_ret2
      exact ⟨by rw [HR.out]; rfl, K0⟩
  have hr : inR x.res 0 8 = true := by simpa using hr
  have g1 : 0 ≤ x.res ∧ x.res ≤ 8 := by unfold inR at hr; simpa using hr
  obtain ⟨g1, g2⟩ := g1
  by_cases ht : inR x.tasks.length 1 16 = false
  · have HR : Hid (chkRes (chkImg x) = .tuple #[.int .i64 x.tasks.length, .int .i64 100]) := by show _ = _; rw [chk2 hr ht]; rfl
    have ht2 : (x.tasks.length < 1) ∨ (1 ≤ x.tasks.length ∧ 16 < x.tasks.length) := by unfold inR at ht; simp at ht; omega
    clear ht hr htk
    generalize x.res = rs at *
    generalize x.tasks.length = n at *
    rcases ht2 with g | ⟨g, g3⟩
    all_goals
      go_enter Tryd.func25, Tryd.ntmps25
      go_wp2
      go_ret2
      exact ⟨by rw [HR.out]; rfl, K0⟩
  have ht : inR x.tasks.length 1 16 = true := by simpa using ht
  have g3 : 1 ≤ x.tasks.length ∧ x.tasks.length ≤ 16 := by unfold inR at ht; simp at ht; omega
  obtain ⟨g3, g4⟩ := g3
  have HC3 := Lib.hid (fun k h3 => chk3 (x := x) (k := k) hr ht h3)
  have HC4 := Lib.hid (chk4 (x := x) hr ht)
  have HC5 := Lib.hid (fun h3 h4 k e => chk5 (x := x) (k := k) (e := e) hr ht h3 h4)
  have HC6 := Lib.hid (chk6 (x := x) hr ht)
  have HC7 := Lib.hid (fun h3 h4 h5 h6 k => chk7 (x := x) (k := k) hr ht h3 h4 h5 h6)
  have HC8 := Lib.hid (chk8 (x := x) hr ht)
  clear hr ht
  obtain ⟨bt, ot, hTA, hbt, hts⟩ := htk (by omega)
  rw [hTA] at c1
  have hc1 : Hid (∀ {W : World}, Blk W w.heap.size 26 il.toArray → W.cell? ⟨w.heap.size, 0, none⟩ = some (.int .i64 x.res) ∧ W.cell? ⟨w.heap.size, 1, none⟩ = some (.slice (some ⟨bt, ot, none⟩) x.tasks.length v.tc) ∧
      W.cell? ⟨w.heap.size, 2, none⟩ = some (.slice v.ma x.modes.length v.mc) ∧ W.cell? ⟨w.heap.size, 3, none⟩ = some (.slice v.ea x.edges.length v.ec)) := fun hW => by have := hc hW; rw [hTA] at this; exact this
  clear hc
  go_enter Tryd.func25, Tryd.ntmps25
  go_wp2
  go_loopw [33] (fun i wr => ∃ k : Nat, k ≤ x.tasks.length ∧ i = .int .i64 k ∧ firstBad (fun _ t => tskOk t x.res) 0 (x.tasks.take k) = none ∧ Blk wr w.heap.size 26 il.toArray ∧ Keep [] w wr) (fun i _ => x.tasks.length - (intOf i).toNat)
  case atStart => exact ⟨0, Nat.zero_le _, rfl, rfl, hb, K0⟩
  case round =>
    clear hb K0 c0 c1 c2 c3
    obtain ⟨k, hk, rfl, hfb, hbi, hkeep⟩ := hrel
    obtain ⟨c0, c1, c2, c3⟩ := hc1.out hbi
    by_cases hlk : k < x.tasks.length
    · have hce := (hts k hlk).keep0 hkeep hbt
      have hlon : x.tasks[k].lon.length = 8 := hof.out.lon _ (List.getElem_mem hlk)
      have HL : Hid ((tskCells x.tasks[k]).length = 11) := show _ = _ from tskCells_len hlon
      have hone := tsk_one x.tasks[k]
      have hok := Lib.hid (firstBad_step (fun _ t => tskOk t x.res) hlk hfb)
      have hbd := Lib.hid (firstBad_at (fun _ t => tskOk t x.res) hlk hfb)
      have HT := fun W => Lib.hid (task_any x.tasks[k] x.res W hlon)
      clear hfb hts hlon
      generalize x.tasks[k] = t at *
      generalize tskCells t = tc at *
      generalize tskOk t x.res = ok at *
      go_wp2_with (first
        | (refine wpList_load_agg rfl 88 (.tmp 36) rfl rfl (cs := tc) (by rw [HL.out]; exact agg_task) hce ?_)
        | (refine stop_store 88 (.tmp 5) (.tmp 37) rfl ?_))
      constructor
      refine wpList_store_all rfl 88 (.tmp 5) (.tmp 37) rfl rfl rfl (vs := tc) (by rw [HL.out]; exact agg_task.2) (Blk.new _ _ _) hone (by rw [HL.out]; rfl) ?_
      intro w2 hb2 hk2
      have hne : w.heap.size ≠ wr.heap.size := by have := hbi.lt; omega
      have hbi2 := (hbi.alloc _).keep hk2 (by simpa using hne)
      obtain ⟨d0, d1, d2, d3⟩ := hc1.out hbi2
      have hk3 := (hkeep.alloc _).trans hk2 (fun y hy h => by simp at hy; have := hkeep.size; omega)
      have qT := Lib.hid hb2.cellsAt
      clear hb2 hk2 hce c0 c1 c2 c3
      go_wp2_with (refine wpList_load_agg rfl 88 (.tmp 5) rfl rfl (cs := tc) (by rw [HL.out]; exact agg_task) qT.out ?_)
      refine (HT _).out.mono ?_
      rintro e w3 ⟨rfl, k3⟩
      have hk4 := hk3.then k3
      have hbi3 := hbi2.keep0 k3
      cases ok
      · have HR := Lib.hid (HC3.out k (hbd.out rfl))
        go_wp2
        go_ret2
        exact ⟨by rw [HR.out]; rfl, hk4⟩
      · have HS := Lib.hid (hok.out rfl)
        go_wp2
        go_roundw
        case rel => exact ⟨k + 1, by omega, by go_num, HS.out, hbi3, hk4⟩
        case measure => simp [intOf] <;> omega
    · have h3 := firstBad_all (fun _ t => tskOk t x.res) (by omega) hfb
      clear hfb hts
      by_cases hm : inR x.modes.length 1 8 = false
      · have HR := Lib.hid (HC4.out h3 hm)
        have hm2 : (x.modes.length < 1) ∨ (1 ≤ x.modes.length ∧ 8 < x.modes.length) := by unfold inR at hm; simp at hm; omega
        clear hm h3 hmd HC3 HC5 HC6 HC7 HC8 HC4 HEd
        generalize x.modes.length = n at *
        rcases hm2 with g | ⟨g, g5⟩
        all_goals
          go_wp2
          go_ret2
          exact ⟨by rw [HR.out]; rfl, hkeep⟩
      have hm : inR x.modes.length 1 8 = true := by simpa using hm
      have g5 : 1 ≤ x.modes.length ∧ x.modes.length ≤ 8 := by unfold inR at hm; simp at hm; omega
      obtain ⟨g5, g6⟩ := g5
      obtain ⟨bm, om, hMA, hbm, hms⟩ := hmd (by omega)
      rw [hMA] at c2
      have hc2 : Hid (∀ {W : World}, Blk W w.heap.size 26 il.toArray → W.cell? ⟨w.heap.size, 0, none⟩ = some (.int .i64 x.res) ∧ W.cell? ⟨w.heap.size, 1, none⟩ = some (.slice (some ⟨bt, ot, none⟩) x.tasks.length v.tc) ∧
          W.cell? ⟨w.heap.size, 2, none⟩ = some (.slice (some ⟨bm, om, none⟩) x.modes.length v.mc) ∧ W.cell? ⟨w.heap.size, 3, none⟩ = some (.slice v.ea x.edges.length v.ec)) := fun hW => by have := hc1.out hW; rw [hMA] at this; exact this
      have HD5 := Lib.hid (HC5.out h3 hm)
      have HD6 := Lib.hid (HC6.out h3 hm)
      have HD7 := Lib.hid (HC7.out h3 hm)
      have HD8 := Lib.hid (HC8.out h3 hm)
      clear HC3 HC4 HC5 HC6 HC7 HC8 h3 hm hmd hc1
      have hmin : min x.tasks.length 32 = x.tasks.length := by omega
      rw [hmin] at HAll
      clear hmin
      have hall : allSet x.tasks.length < 4294967296 := allSet_lt (by omega)
      generalize allSet x.tasks.length = all at *
      obtain ⟨ws, hws⟩ : ∃ ws : World, ws = wr := ⟨_, rfl⟩
      subst hws
      go_wp2
      go_loopw [61] (fun i wr => ∃ k : Nat, k ≤ x.modes.length ∧ i = .int .i64 k ∧ firstMode all 0 (x.modes.take k) = none ∧ Blk wr w.heap.size 26 il.toArray ∧ Keep [] w wr) (fun i _ => x.modes.length - (intOf i).toNat)
      case atStart => exact ⟨0, Nat.zero_le _, rfl, rfl, hbi, hkeep⟩
      case round =>
        clear hbi hkeep c0 c1 c2 c3
        obtain ⟨k, hk, rfl, hfb, hbi, hkeep⟩ := hrel
        obtain ⟨c0, c1, c2, c3⟩ := hc2.out hbi
        by_cases hlk : k < x.modes.length
        · obtain ⟨Aq, cq, hmc, hqs⟩ := hms k hlk
          have hce := hmc.keep0 hkeep hbm
          have q0 := hce 0 _ rfl
          have q1 := hce 1 _ rfl
          simp only [Nat.add_zero] at q0
          have hok := Lib.hid (firstMode_step hlk hfb)
          have hbd := Lib.hid (fun e => firstMode_at hlk hfb (e := e))
          have hset := hof.out.set _ (List.getElem_mem hlk)
          have HQ := fun W hk => Lib.hid (queues_any Aq cq x.modes[k].qs W (hqs.keep0 hk) (hlq.out _ (List.getElem_mem hlk)))
          have hand : bits .andNot .u32 (x.modes[k].set : Int) (all : Int) = ((minusN x.modes[k].set all : Nat) : Int) := u32_andNot_nat _ _ hset hall
          have HAND := Lib.hid hand
          have hz := Lib.hid (or_andNot x.modes[k].set all hset hall)
          have HME : Hid (mddErr all x.modes[k] = if x.modes[k].set ||| all = all then (if quesOk x.modes[k].qs then none else some 104) else some 101) := show _ = _ from rfl
          clear hfb hms hmc hce hqs hand
          generalize x.modes[k] = m at *
          generalize m.set = ms at *
          generalize m.qs.length = nq at *
          have B7 := Blk.new wr 76 #[.int .u32 (ms : Int), .slice Aq nq cq]
          have hbi2 := hbi.alloc (.cells #[.int .u32 (ms : Int), .slice Aq nq cq] 76)
          have hk3 := hkeep.alloc (.cells #[.int .u32 (ms : Int), .slice Aq nq cq] 76)
          obtain ⟨d0, d1, d2, d3⟩ := hc2.out hbi2
          go_wp2
          have hF : ∀ w', Keep [] (wr.alloc (.cells #[.int .u32 (ms : Int), .slice Aq nq cq] 76)) w' → w'.cell? ⟨wr.heap.size, 0, none⟩ = some (.int .u32 (ms : Int)) ∧ w'.cell? ⟨wr.heap.size, 1, none⟩ = some (.slice Aq nq cq) := fun w' hw =>
            ⟨by rw [(B7.keep0 hw).cell]; rfl, by rw [(B7.keep0 hw).cell]; rfl⟩
          refine wp_region_flow (Keep [] (wr.alloc (.cells #[.int .u32 (ms : Int), .slice Aq nq cq] 76))) rfl (by kernel_rfl) (Keep.refl _ _).drew ?_
          (refine fl_val (v := ?_) (by rfl) ?_ ?_; rotate_left; (intro w' hS; obtain ⟨f1,f2⟩ := hF w' hS; go_simp; with_reducible rfl); simp only [Act.put, List.setIfInBounds_toArray, List.set_cons_zero, List.set_cons_succ])
          (refine fl_val (v := ?_) (by rfl) ?_ ?_; rotate_left; (intro w' hS; obtain ⟨f1,f2⟩ := hF w' hS; go_simp; with_reducible rfl); simp only [Act.put, List.setIfInBounds_toArray, List.set_cons_zero, List.set_cons_succ])
          refine fl_agg 26 (.tmp 1) il rfl rfl rfl (by rw [HIL.out]; exact agg_image) (fun w' hw => (hbi2.keep0 hw).cellsAt) ?_
          simp only [Act.put, List.setIfInBounds_toArray, List.set_cons_zero, List.set_cons_succ]
          refine fl_call (f := 36) (v := .int .u32 (all : Int)) (by rfl) rfl (by simp only [List.map_toArray, List.map_cons, List.map_nil]; rfl) Tryd.func36 (by kernel_rfl) (by kernel_rfl) (fun w' hS => ((HAll w').out.mono (fun e w'' h => ⟨h.1, hS.then h.2⟩))) ?_; simp only [Act.put, List.setIfInBounds_toArray, List.set_cons_zero, List.set_cons_succ]
          have hand := HAND.out
          (refine fl_val (v := ?_) (by rfl) ?_ ?_; rotate_left; (intro w' hS; obtain ⟨f1,f2⟩ := hF w' hS; go_simp; with_reducible rfl); simp only [Act.put, List.setIfInBounds_toArray, List.set_cons_zero, List.set_cons_succ])
          (refine fl_val (v := ?_) (by rfl) ?_ ?_; rotate_left; (intro w' hS; obtain ⟨f1,f2⟩ := hF w' hS; go_simp; with_reducible rfl); simp only [Act.put, List.setIfInBounds_toArray, List.set_cons_zero, List.set_cons_succ])
          refine fl_nil ?_
          intro w4 hS
          clear hand c0 c1 c2 c3 d0 d1 d2 d3
          have hk5 := hk3.then hS
          have hbi5 := hbi2.keep0 hS
          obtain ⟨d0, d1, d2, d3⟩ := hc2.out hbi5
          obtain ⟨f1, f2⟩ := hF w4 hS
          by_cases hz0 : minusN ms all = 0
          · have hz1 := Lib.hid (hz.out.1 hz0)
            rw [hz0]
            go_wp2_with fail
            refine (HQ _ hk5).out.mono ?_
            rintro e w5 ⟨rfl, k5⟩
            have hk6 := hk5.then k5
            have hbi6 := hbi5.keep0 k5
            cases hqo : quesOk m.qs
            · have HR := Lib.hid (HD5.out k 104 (hbd.out 104 (by rw [HME.out, if_pos hz1.out, hqo]; rfl)))
              clear hqo
              go_wp2
              go_ret2
              exact ⟨by rw [HR.out]; rfl, hk6⟩
            · have HS := Lib.hid (hok.out (by rw [HME.out, if_pos hz1.out, hqo]; rfl))
              clear hqo
              go_wp2
              go_roundw
              case rel => exact ⟨k + 1, by omega, by go_num, HS.out, hbi6, hk6⟩
              case measure => simp [intOf] <;> omega
          · have HR := Lib.hid (HD5.out k 101 (hbd.out 101 (by rw [HME.out, if_neg (fun h => hz0 (hz.out.2 h))])))
            have hz1 : (((minusN ms all : Nat) : Int) != 0) = true := by simp; omega
            clear hz0
            go_wp2
            go_ret2
            exact ⟨by rw [HR.out]; rfl, hk5⟩
        · have h5 := firstMode_all (by omega) hfb
          clear hfb hms
          have hq31 : ∀ m ∈ x.modes, m.qs.length ≤ 31 := fun m hm => by have := quesOk_le (mddErr_ok (firstMode_ok h5 m hm)).1; omega
          have HE2 := fun i W hk hi => HEd i W hk hi hq31 (by omega)
          clear HEd hq31 hlq HAll
          rcases Nat.lt_or_ge 24 x.edges.length with g7 | g7
          · have HR := Lib.hid (HD6.out h5 g7)
            clear h5 HD5 HD6 HD7 HD8 HE2
            generalize x.edges.length = n at *
            go_wp2
            go_ret2
            exact ⟨by rw [HR.out]; rfl, hkeep⟩
          have HF7 := Lib.hid (fun k h7 => HD7.out h5 g7 (k := k) h7)
          have HF8 := Lib.hid (HD8.out h5 g7)
          clear h5 HD5 HD6 HD7 HD8
          obtain ⟨wt, hwt⟩ : ∃ wt : World, wt = wr := ⟨_, rfl⟩
          subst hwt
          go_wp2
          go_loopw [89] (fun i wr => ∃ k : Nat, k ≤ x.edges.length ∧ i = .int .i64 k ∧ firstBad (fun i e => edgOk x i e) 0 (x.edges.take k) = none ∧ Blk wr w.heap.size 26 il.toArray ∧ Keep [] w wr) (fun i _ => x.edges.length - (intOf i).toNat)
          case atStart => exact ⟨0, Nat.zero_le _, rfl, rfl, hbi, hkeep⟩
          case round =>
            clear hbi hkeep c0 c1 c2 c3
            obtain ⟨k, hk, rfl, hfb, hbi, hkeep⟩ := hrel
            by_cases hlk : k < x.edges.length
            · have hok := Lib.hid (firstBad_step (fun i e => edgOk x i e) hlk hfb)
              have hbd := Lib.hid (firstBad_at (fun i e => edgOk x i e) hlk hfb)
              have HE3 := HE2 k wr hkeep hlk
              have qI := Lib.hid hbi.cellsAt
              clear hfb HE2
              generalize edgOk x k x.edges[k] = ok at *
              go_wp2_with (refine wpList_load_agg rfl 26 (.tmp 1) rfl rfl (cs := il) (by rw [HIL.out]; exact agg_image) qI.out ?_)
              refine HE3.out.mono ?_
              rintro e w5 ⟨rfl, k5⟩
              have hk6 := hkeep.then k5
              have hbi6 := hbi.keep0 k5
              cases ok
              · have HR := Lib.hid (HF7.out k (hbd.out rfl))
                go_wp2
                go_ret2
                exact ⟨by rw [HR.out]; rfl, hk6⟩
              · have HS := Lib.hid (hok.out rfl)
                go_wp2
                go_roundw
                case rel => exact ⟨k + 1, by omega, by go_num, HS.out, hbi6, hk6⟩
                case measure => simp [intOf] <;> omega
            · have h7 := firstBad_all (fun i e => edgOk x i e) (by omega) hfb
              have HR := Lib.hid (HF8.out h7)
              clear hfb h7 HE2
              go_wp2
              go_ret2
              exact ⟨by rw [HR.out]; rfl, hkeep⟩
end Go.Proofs.YteflgdnekflbbaaDoor
