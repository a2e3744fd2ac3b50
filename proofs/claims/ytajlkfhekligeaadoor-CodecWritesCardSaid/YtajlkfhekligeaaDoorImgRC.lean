/- Which images may be, where and why others may not: the document's answer; more than is asked. -/
import Derived.Test.YtajlkfhekligeaaDoorImgC
import Derived.Test.YtajlkfhekligeaaDoorImgRG
namespace Go.Proofs.YtajlkfhekligeaaDoor
open Go.RowKit

theorem allSet_add (k : Nat) (hk : k < 32) : ((allSet k : Int) + 2 ^ k % 4294967296) % 4294967296 = ((allSet (k + 1) : Nat) : Int) := by
  have h1 : allSet (k + 1) < 4294967296 := allSet_lt (by omega)
  have h2 := allSet_succ k
  rw [pow_mod32 hk]
  omega

set_option maxRecDepth 100000 in
set_option maxHeartbeats 3000000 in
theorem great_any (v : ImgV) (x : Img) (w : World) (h : ImgAt w v x) :
    Calls Tryd.prog 10 #[.agg (imgCells v x).toArray] w fun e w' => e = .returned (.bool (greatImg x)) ∧ Keep [] w w' := by
  have hlt := h.lt
  have hlm := h.lm
  have hle := h.le
  unfold maxLen at hlt hlm hle
  have hb := img_box w v x
  have K0 := (Keep.refl [] w).alloc (.cells (imgCells v x).toArray 26)
  have hmd := h.mode
  have c1 := img_c1 hb
  have c2 := img_c2 hb
  have c3 := img_c3 hb
  have hlq := Lib.hid h.lq
  clear h hb
  have HG : Hid (greatImg x = (decide (40 < x.tasks.length) || decide (20 < x.modes.length) || decide (60 < x.edges.length) || x.modes.any (fun m => decide (20 < m.qs.length)))) := show _ = _ from rfl
  generalize (imgCells v x).toArray = cs at *
  generalize greatImg x = gr at *
  have hc : (40 < x.tasks.length) ∨ (x.tasks.length ≤ 40 ∧ 20 < x.modes.length) ∨ (x.tasks.length ≤ 40 ∧ x.modes.length ≤ 20 ∧ 60 < x.edges.length) ∨ (x.tasks.length ≤ 40 ∧ x.modes.length ≤ 20 ∧ x.edges.length ≤ 60) := by omega
  rcases hc with g1 | ⟨g1, g2⟩ | ⟨g1, g2, g3⟩ | ⟨g1, g2, g3⟩
  iterate 3
    · have HF : Hid (gr = true) := by show _ = _; rw [HG.out]; simp <;> omega
      clear HG hmd hlq
      generalize x.tasks.length = nt at *
      generalize x.modes.length = nm at *
      generalize x.edges.length = ne at *
      go_enter Tryd.func10, Tryd.ntmps10
      go_wp2
      go_ret
      exact ⟨by rw [HF.out]; rfl, K0⟩
  have HF : Hid (gr = x.modes.any (fun m => decide (20 < m.qs.length))) := by
    show _ = _; rw [HG.out]
    have e1 : decide (40 < x.tasks.length) = false := by simp; omega
    have e2 : decide (20 < x.modes.length) = false := by simp; omega
    have e3 : decide (60 < x.edges.length) = false := by simp; omega
    rw [e1, e2, e3]; simp
  clear HG
  go_enter Tryd.func10, Tryd.ntmps10
  go_wp2
  go_loopw [3] (fun vi wr => ∃ k : Nat, k ≤ x.modes.length ∧ vi = .int .i64 k ∧ (x.modes.take k).any (fun m => decide (20 < m.qs.length)) = false ∧ w.alloc (.cells cs 26) = wr) (fun vi _ => x.modes.length - (intOf vi).toNat)
  case atStart => exact ⟨0, Nat.zero_le _, rfl, rfl, rfl⟩
  case round =>
    obtain ⟨k, hk, rfl, hno, rfl⟩ := hrel
    by_cases hlk : k < x.modes.length
    · obtain ⟨b, o, hA, hbl, hms⟩ := hmd (by omega)
      obtain ⟨A, c, hc, _⟩ := hms k hlk
      have q1 := (K0.cell (p := ⟨b, o + k * 2 + 1, none⟩) hbl (by simp)).trans (hc 1 _ rfl)
      have hst : Hid ((x.modes.take (k + 1)).any (fun m => decide (20 < m.qs.length)) = decide (20 < x.modes[k].qs.length)) := by
        show _ = _; rw [List.take_succ_eq_append_getElem hlk, List.any_append, hno]; simp
      have hbd : Hid (20 < x.modes[k].qs.length → x.modes.any (fun m => decide (20 < m.qs.length)) = true) := fun hh =>
        List.any_eq_true.2 ⟨x.modes[k], List.getElem_mem hlk, by simpa using hh⟩
      have hql := hlq.out _ (List.getElem_mem hlk)
      unfold maxLen at hql
      clear hno hms hc hmd
      rw [hA] at c2
      generalize x.modes[k].qs.length = nq at *
      rcases Nat.lt_or_ge 20 nq with g | g
      · have HR := Lib.hid (hbd.out g)
        go_wp2
        go_ret
        exact ⟨by rw [HF.out, HR.out]; rfl, K0⟩
      · have HS : Hid ((x.modes.take (k + 1)).any (fun m => decide (20 < m.qs.length)) = false) := by show _ = _; rw [hst.out]; simp; omega
        go_wp2
        go_roundw
        case rel => exact ⟨k + 1, by omega, by go_num, HS.out, by trivial⟩
        case measure => simp [intOf] <;> omega
    · have HA : Hid (x.modes.any (fun m => decide (20 < m.qs.length)) = false) := by show _ = _; rwa [List.take_of_length_le (by omega)] at hno
      clear hno hmd
      go_wp2
      go_ret
      exact ⟨by rw [HF.out, HA.out]; rfl, K0⟩

set_option maxRecDepth 100000 in
set_option maxHeartbeats 3000000 in
theorem rcheck_any (v : ImgV) (x : Img) (w : World) (h : ImgAt w v x) :
    Calls Tryd.prog 31 #[.agg (imgCells v x).toArray] w fun e w' => e = .returned (chkRes (chkImg x)) ∧ Keep [] w w' := by
  have hlt := h.lt
  have hlm := h.lm
  have hle := h.le
  have hlq := Lib.hid h.lq
  unfold maxLen at hlt hlm hle
  have hb := img_box w v x
  have K0 := (Keep.refl [] w).alloc (.cells (imgCells v x).toArray 26)
  have hof := Lib.hid h.ok
  have htk := h.task
  have hmd := h.mode
  have HIL : Hid ((imgCells v x).length = 4) := show _ = _ from rfl
  have HEd := fun i W hk hi hn => Lib.hid (redge_any v x i W (h.keep0 hk) hi hn)
  have hc := fun {W : World} (hW : Blk W w.heap.size 26 (imgCells v x).toArray) => And.intro (img_c0 hW) (And.intro (img_c1 hW) (And.intro (img_c2 hW) (img_c3 hW)))
  obtain ⟨c0, c1, c2, c3⟩ := hc hb
  clear h
  generalize imgCells v x = il at *
  by_cases hr : inR x.res 0 8 = false
  · have HR : Hid (chkRes (chkImg x) = .tuple #[.int .i64 0, .int .i64 103]) := by show _ = _; rw [chk1 hr]; rfl
    generalize x.res = rs at *
    go_enter Tryd.func31, Tryd.ntmps31
    go_wp2_with (refine (in10_any _ _ _ _).mono ?_; rintro e w' ⟨rfl, rfl⟩)
    go_ret2
    exact ⟨by rw [HR.out]; rfl, K0⟩
  have hr : inR x.res 0 8 = true := by simpa using hr
  by_cases ht : inR x.tasks.length 1 16 = false
  · have HR : Hid (chkRes (chkImg x) = .tuple #[.int .i64 x.tasks.length, .int .i64 100]) := by show _ = _; rw [chk2 hr ht]; rfl
    clear htk
    generalize x.res = rs at *
    generalize x.tasks.length = n at *
    go_enter Tryd.func31, Tryd.ntmps31
    go_wp2_with (refine (in10_any _ _ _ _).mono ?_; rintro e w' ⟨rfl, rfl⟩)
    go_ret2
    exact ⟨by rw [HR.out]; rfl, K0⟩
  have ht : inR x.tasks.length 1 16 = true := by simpa using ht
  have g3 : 1 ≤ x.tasks.length ∧ x.tasks.length ≤ 16 := by have := ht; unfold inR at this; simp at this; omega
  obtain ⟨g3, g4⟩ := g3
  have HC3 := Lib.hid (fun k h3 => chk3 (x := x) (k := k) hr ht h3)
  have HC4 := Lib.hid (chk4 (x := x) hr ht)
  have HC5 := Lib.hid (fun h3 h4 k e => chk5 (x := x) (k := k) (e := e) hr ht h3 h4)
  have HC6 := Lib.hid (chk6 (x := x) hr ht)
  have HC7 := Lib.hid (fun h3 h4 h5 h6 k => chk7 (x := x) (k := k) hr ht h3 h4 h5 h6)
  have HC8 := Lib.hid (chk8 (x := x) hr ht)
  obtain ⟨bt, ot, hTA, hbt, hts⟩ := htk (by omega)
  rw [hTA] at c1
  have hc1 : Hid (∀ {W : World}, Blk W w.heap.size 26 il.toArray → W.cell? ⟨w.heap.size, 0, none⟩ = some (.int .i64 x.res) ∧ W.cell? ⟨w.heap.size, 1, none⟩ = some (.slice (some ⟨bt, ot, none⟩) x.tasks.length v.tc) ∧
      W.cell? ⟨w.heap.size, 2, none⟩ = some (.slice v.ma x.modes.length v.mc) ∧ W.cell? ⟨w.heap.size, 3, none⟩ = some (.slice v.ea x.edges.length v.ec)) := fun hW => by have := hc hW; rw [hTA] at this; exact this
  clear hc
  go_enter Tryd.func31, Tryd.ntmps31
  go_wp2_with (refine (in10_any _ _ _ _).mono ?_; rintro e w' ⟨rfl, rfl⟩)
  clear hr ht
  go_loopw [4, 5] (fun sv vi wr => ∃ k : Nat, k ≤ x.tasks.length ∧ vi = .int .i64 k ∧ sv = .int .u32 (allSet k : Int) ∧ firstBad (fun _ t => tskOk t x.res) 0 (x.tasks.take k) = none ∧ Blk wr w.heap.size 26 il.toArray ∧ Keep [] w wr) (fun _ vi _ => x.tasks.length - (intOf vi).toNat)
  case atStart => exact ⟨0, Nat.zero_le _, rfl, rfl, rfl, hb, K0⟩
  case round =>
    clear hb K0 c0 c1 c2 c3
    obtain ⟨k, hk, rfl, rfl, hfb, hbi, hkeep⟩ := hrel
    obtain ⟨c0, c1, c2, c3⟩ := hc1.out hbi
    by_cases hlk : k < x.tasks.length
    · have hce := (hts k hlk).keep0 hkeep hbt
      have hlon : x.tasks[k].lon.length = 8 := hof.out.lon _ (List.getElem_mem hlk)
      have HL : Hid ((tskCells x.tasks[k]).length = 11) := show _ = _ from tskCells_len hlon
      have hok := Lib.hid (firstBad_step (fun _ t => tskOk t x.res) hlk hfb)
      have hbd := Lib.hid (firstBad_at (fun _ t => tskOk t x.res) hlk hfb)
      have HT := fun W => Lib.hid (rtask_any x.tasks[k] x.res W hlon)
      have hadd := Lib.hid (allSet_add k (by omega))
      clear hfb hts hlon
      generalize x.tasks[k] = t at *
      generalize tskCells t = tc at *
      generalize tskOk t x.res = ok at *
      have hbt2 := Nat.lt_of_lt_of_le hbt hkeep.size
      have k0 : (0 : Int) ≤ (k : Int) := by omega
      have k1 : (k : Int) < x.tasks.length := by omega
      have hF : ∀ w', Keep [] wr w' → w'.cell? ⟨w.heap.size, 0, none⟩ = some (.int .i64 x.res) ∧ w'.cell? ⟨w.heap.size, 1, none⟩ = some (.slice (some ⟨bt, ot, none⟩) x.tasks.length v.tc) := fun w' hw =>
        ⟨(hw.cell (p := ⟨w.heap.size, 0, none⟩) hbi.lt (by simp)).trans c0, (hw.cell (p := ⟨w.heap.size, 1, none⟩) hbi.lt (by simp)).trans c1⟩
      have hce' : Hid (∀ w', Keep [] wr w' → CellsAt w' bt (ot + k * 11) tc) := fun w' hw => hce.keep0 hw hbt2
      clear hce
      go_wp2
      refine wp_region_flow (Keep [] wr) rfl (by kernel_rfl) (Keep.refl _ _).drew ?_
      repeat (refine fl_val (v := ?_) (by rfl) ?_ ?_; rotate_left; (intro w' hS; obtain ⟨f1,f2⟩ := hF w' hS; go_simp; with_reducible rfl); simp only [Act.put, List.setIfInBounds_toArray, List.set_cons_zero, List.set_cons_succ])
      refine fl_agg 39 (.tmp 30) tc rfl rfl rfl (by rw [HL.out]; exact agg_task) (fun w' hw => hce'.out w' hw) ?_
      simp only [Act.put, List.setIfInBounds_toArray, List.set_cons_zero, List.set_cons_succ]
      repeat (refine fl_val (v := ?_) (by rfl) ?_ ?_; rotate_left; (intro w' hS; obtain ⟨f1,f2⟩ := hF w' hS; go_simp; with_reducible rfl); simp only [Act.put, List.setIfInBounds_toArray, List.set_cons_zero, List.set_cons_succ])
      refine fl_call (f := 65) (v := .bool ok) (by rfl) rfl (by simp only [List.map_toArray, List.map_cons, List.map_nil]; rfl) Tryd.func65 (by kernel_rfl) (by kernel_rfl) (fun w' hS => ((HT w').out.mono (fun e w'' h => ⟨h.1, hS.then h.2⟩))) ?_; simp only [Act.put, List.setIfInBounds_toArray, List.set_cons_zero, List.set_cons_succ]
      repeat (refine fl_val (v := ?_) (by rfl) ?_ ?_; rotate_left; (intro w' hS; obtain ⟨f1,f2⟩ := hF w' hS; go_simp; with_reducible rfl); simp only [Act.put, List.setIfInBounds_toArray, List.set_cons_zero, List.set_cons_succ])
      refine fl_nil ?_
      intro w4 hS
      have hk4 := hkeep.then hS
      have hbi3 := hbi.keep0 hS
      clear c0 c1 c2 c3
      cases ok
      · have HR := Lib.hid (HC3.out k (hbd.out rfl))
        go_wp2
        go_ret2
        exact ⟨by rw [HR.out]; rfl, hk4⟩
      · have HS := Lib.hid (hok.out rfl)
        go_wp2
        go_roundw
        case rel => exact ⟨k + 1, by omega, by go_num, by rw [← hadd.out], HS.out, hbi3, hk4⟩
        case measure => simp [intOf] <;> omega
    · have h3 := firstBad_all (fun _ t => tskOk t x.res) (by omega) hfb
      obtain rfl : k = x.tasks.length := by omega
      clear hfb hts
      by_cases hm : inR x.modes.length 1 8 = false
      · have HR := Lib.hid (HC4.out h3 hm)
        clear h3 hmd HC3 HC5 HC6 HC7 HC8 HC4 HEd
        generalize x.modes.length = n at *
        go_wp2_with (refine (in10_any _ _ _ _).mono ?_; rintro e w' ⟨rfl, rfl⟩)
        go_ret2
        exact ⟨by rw [HR.out]; rfl, hkeep⟩
      have hm : inR x.modes.length 1 8 = true := by simpa using hm
      have g5 : 1 ≤ x.modes.length ∧ x.modes.length ≤ 8 := by have := hm; unfold inR at this; simp at this; omega
      obtain ⟨g5, g6⟩ := g5
      obtain ⟨bm, om, hMA, hbm, hms⟩ := hmd (by omega)
      rw [hMA] at c2
      have hc2 : Hid (∀ {W : World}, Blk W w.heap.size 26 il.toArray → W.cell? ⟨w.heap.size, 0, none⟩ = some (.int .i64 x.res) ∧ W.cell? ⟨w.heap.size, 1, none⟩ = some (.slice (some ⟨bt, ot, none⟩) x.tasks.length v.tc) ∧
          W.cell? ⟨w.heap.size, 2, none⟩ = some (.slice (some ⟨bm, om, none⟩) x.modes.length v.mc) ∧ W.cell? ⟨w.heap.size, 3, none⟩ = some (.slice v.ea x.edges.length v.ec)) := fun hW => by have := hc1.out hW; rw [hMA] at this; exact this
      have HD5 := Lib.hid (HC5.out h3 hm)
      have HD6 := Lib.hid (HC6.out h3 hm)
      have HD7 := Lib.hid (HC7.out h3 hm)
      have HD8 := Lib.hid (HC8.out h3 hm)
      clear HC3 HC4 HC5 HC6 HC7 HC8 h3 hmd hc1
      have hall : allSet x.tasks.length < 4294967296 := allSet_lt (by omega)
      generalize allSet x.tasks.length = all at *
      obtain ⟨ws, hws⟩ : ∃ ws : World, ws = wr := ⟨_, rfl⟩
      subst hws
      go_wp2_with (refine (in10_any _ _ _ _).mono ?_; rintro e w' ⟨rfl, rfl⟩)
      clear hm
      go_loopw [6] (fun i wr => ∃ k : Nat, k ≤ x.modes.length ∧ i = .int .i64 k ∧ firstMode all 0 (x.modes.take k) = none ∧ ws = wr) (fun i _ => x.modes.length - (intOf i).toNat)
      case atStart => exact ⟨0, Nat.zero_le _, rfl, rfl, rfl⟩
      case round =>
        obtain ⟨k, hk, rfl, hfb, rfl⟩ := hrel
        by_cases hlk : k < x.modes.length
        · obtain ⟨Aq, cq, hmc, hqs⟩ := hms k hlk
          have hce := hmc.keep0 hkeep hbm
          have q0 := hce 0 _ rfl
          have q1 := hce 1 _ rfl
          simp only [Nat.add_zero] at q0
          have hok := Lib.hid (firstMode_step hlk hfb)
          have hbd := Lib.hid (fun e => firstMode_at hlk hfb (e := e))
          have hset := hof.out.set _ (List.getElem_mem hlk)
          have HQ := Lib.hid (rqueues_any Aq cq x.modes[k].qs ws (hqs.keep0 hkeep) (hlq.out _ (List.getElem_mem hlk)))
          have hor : bits .or .u32 (x.modes[k].set : Int) (all : Int) = ((x.modes[k].set ||| all : Nat) : Int) := u32_or_nat _ _ hset hall
          have HME : Hid (mddErr all x.modes[k] = if x.modes[k].set ||| all = all then (if quesOk x.modes[k].qs then none else some 104) else some 101) := show _ = _ from rfl
          have hqn := hlq.out _ (List.getElem_mem hlk)
          unfold maxLen at hqn
          clear hfb hms hmc hce hqs
          generalize x.modes[k] = m at *
          generalize m.set = ms at *
          generalize m.qs.length = nq at *
          generalize ms ||| all = so at *
          by_cases hz0 : so = all
          · have hz1 := Lib.hid hz0
            have hz2 : ((so : Int) != (all : Int)) = false := by simp [hz0]
            have hz3 : (so != all) = false := by simp [hz0]
            clear hz0
            go_wp2_with fail
            refine HQ.out.mono ?_
            rintro e w5 ⟨rfl, rfl⟩
            cases hqo : quesOk m.qs
            · have HR := Lib.hid (HD5.out k 104 (hbd.out 104 (by rw [HME.out, if_pos hz1.out, hqo]; rfl)))
              clear hqo
              go_wp2
              go_ret2
              exact ⟨by rw [HR.out]; rfl, hkeep⟩
            · have HS := Lib.hid (hok.out (by rw [HME.out, if_pos hz1.out, hqo]; rfl))
              clear hqo
              go_wp2
              go_roundw
              case rel => exact ⟨k + 1, by omega, by go_num, HS.out, by trivial⟩
              case measure => simp [intOf] <;> omega
          · have HR := Lib.hid (HD5.out k 101 (hbd.out 101 (by rw [HME.out, if_neg hz0])))
            have hz2 : ((so : Int) != (all : Int)) = true := by simp; omega
            have hz3 : (so != all) = true := by simp [hz0]
            clear hz0
            go_wp2
            go_ret2
            exact ⟨by rw [HR.out]; rfl, hkeep⟩
        · have h5 := firstMode_all (by omega) hfb
          clear hfb hms
          have HE2 := fun i W hk hi => HEd i W hk hi (by omega)
          clear HEd hlq
          rcases Nat.lt_or_ge 24 x.edges.length with g7 | g7
          · have HR := Lib.hid (HD6.out h5 g7)
            clear h5 HD5 HD6 HD7 HD8 HE2
            generalize x.edges.length = n at *
            go_wp2
            go_ret2
            exact ⟨by rw [HR.out]; rfl, hkeep⟩
          have HF7 := Lib.hid (fun k h7 => HD7.out h5 g7 (k := k) h7)
          have HF8 := Lib.hid (HD8.out h5 g7)
          clear h5 HD5 HD6 HD7 HD8
          go_wp2
          go_loopw [7] (fun i wr => ∃ k : Nat, k ≤ x.edges.length ∧ i = .int .i64 k ∧ firstBad (fun i e => edgOk x i e) 0 (x.edges.take k) = none ∧ Blk wr w.heap.size 26 il.toArray ∧ Keep [] w wr) (fun i _ => x.edges.length - (intOf i).toNat)
          case atStart => exact ⟨0, Nat.zero_le _, rfl, rfl, hbi, hkeep⟩
          case round =>
            clear hbi hkeep c0 c1 c2 c3
            obtain ⟨k, hk, rfl, hfb, hbi, hkeep⟩ := hrel
            obtain ⟨c0, c1, c2, c3⟩ := hc2.out hbi
            by_cases hlk : k < x.edges.length
            · have hok := Lib.hid (firstBad_step (fun i e => edgOk x i e) hlk hfb)
              have hbd := Lib.hid (firstBad_at (fun i e => edgOk x i e) hlk hfb)
              have HE3 := HE2 k wr hkeep hlk
              have qI := Lib.hid hbi.cellsAt
              clear hfb HE2
              generalize edgOk x k x.edges[k] = ok at *
              go_wp2_with (refine wpList_load_agg rfl 26 (.tmp 1) rfl rfl (cs := il) (by rw [HIL.out]; exact agg_image) qI.out ?_)
              refine HE3.out.mono ?_
              rintro e w5 ⟨rfl, k5⟩
              have hk6 := hkeep.then k5
              have hbi6 := hbi.keep0 k5
              cases ok
              · have HR := Lib.hid (HF7.out k (hbd.out rfl))
                go_wp2
                go_ret2
                exact ⟨by rw [HR.out]; rfl, hk6⟩
              · have HS := Lib.hid (hok.out rfl)
                go_wp2
                go_roundw
                case rel => exact ⟨k + 1, by omega, by go_num, HS.out, hbi6, hk6⟩
                case measure => simp [intOf] <;> omega
            · have h7 := firstBad_all (fun i e => edgOk x i e) (by omega) hfb
              have HR := Lib.hid (HF8.out h7)
              clear hfb h7 HE2
              go_wp2
              go_ret2
              exact ⟨by rw [HR.out]; rfl, hkeep⟩

end Go.Proofs.YtajlkfhekligeaaDoor
