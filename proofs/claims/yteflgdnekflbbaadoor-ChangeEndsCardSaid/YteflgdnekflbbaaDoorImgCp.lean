/- A copy of an image: in memory of its own. -/
import Derived.Test.YteflgdnekflbbaaDoorImgT
namespace Go.Proofs.YteflgdnekflbbaaDoor
open Go.RowKit

abbrev rowM (ms : List Mdd) (qs : List (Option Addr × Nat)) : List Value := (ms.zip qs).flatMap mddCells
theorem rowM_len : ∀ (ms : List Mdd) (qs : List (Option Addr × Nat)), qs.length = ms.length → (rowM ms qs).length = ms.length * 2
  | ms, qs, h => by
    rw [rowM, flat_len (cells := mddCells) (size := 2) _ (fun m _ => rfl), List.length_zip, h]; simp
theorem rowM_set : ∀ (ms : List Mdd) (qs : List (Option Addr × Nat)) (i : Nat) (A : Option Addr) (c : Nat), qs.length = ms.length → (hi : i < ms.length) → (rowM ms qs).set (i * 2 + 1) (.slice A ms[i].qs.length c) = rowM ms (qs.set i (A, c))
  | [], qs, i, A, c, h, hi => by simp at hi
  | m :: ms, [], i, A, c, h, hi => by simp at h
  | m :: ms, q :: qs, i, A, c, h, hi => by
    cases i with
    | zero => rfl
    | succ i =>
      have := rowM_set ms qs i A c (by simpa using h) (by simpa using hi)
      simp only [rowM, List.zip_cons_cons, List.flatMap_cons, List.set_cons_succ, List.getElem_cons_succ] at this ⊢
      rw [← this, show (i + 1) * 2 + 1 = (i * 2 + 1) + 2 by omega]
      rfl
theorem rowM_at (ms : List Mdd) (qs : List (Option Addr × Nat)) (h : qs.length = ms.length) (i : Nat) (hi : i < ms.length) : (rowM ms qs)[i * 2 + 1]? = some (.slice (qs[i]'(by omega)).1 ms[i].qs.length (qs[i]'(by omega)).2) := by
  rw [rowM, flat_at (cells := mddCells) (size := 2) _ (fun m _ => rfl) i 1 (by rw [List.length_zip, h]; omega) (by decide), List.getElem_zip]; rfl
theorem rowM_at0 (ms : List Mdd) (qs : List (Option Addr × Nat)) (h : qs.length = ms.length) (i : Nat) (hi : i < ms.length) : (rowM ms qs)[i * 2]? = some (.int .u32 (ms[i].set : Int)) := by
  have := flat_at (cells := mddCells) (size := 2) (ms.zip qs) (fun m _ => rfl) i 0 (by rw [List.length_zip, h]; omega) (by decide)
  rw [Nat.add_zero] at this
  rw [rowM, this, List.getElem_zip]; rfl

/-- An image in memory of its own, from block B on. -/
structure CopyAt (B : Nat) (w : World) (v : ImgV) (x : Img) : Prop where
  ok : x.Ok
  ql : v.qa.length = x.modes.length
  tasks : w.ownsRow B 88 11 (.slice v.ta x.tasks.length v.tc) x.tasks.length (x.tasks.flatMap tskCells)
  modes : w.ownsRow B 76 2 (.slice v.ma x.modes.length v.mc) x.modes.length (rowM x.modes v.qa)
  edges : w.ownsRow B 93 23 (.slice v.ea x.edges.length v.ec) x.edges.length (x.edges.flatMap edgCells)
  queues : ∀ i, (h : i < x.modes.length) → (h' : i < v.qa.length) → w.ownsRow B 130 2 (.slice v.qa[i].1 x.modes[i].qs.length v.qa[i].2) x.modes[i].qs.length (x.modes[i].qs.flatMap queCells)
  lt : x.tasks.length ≤ maxLen
  lm : x.modes.length ≤ maxLen
  le : x.edges.length ≤ maxLen
  lq : ∀ m ∈ x.modes, m.qs.length ≤ maxLen
theorem CopyAt.img {B : Nat} {w : World} {v : ImgV} {x : Img} (h : CopyAt B w v x) : ImgAt w v x :=
  ⟨h.ok, h.ql, Reads.of_own h.tasks, Reads.of_own h.modes, Reads.of_own h.edges, fun i hi hi' => Reads.of_own (h.queues i hi hi'), h.lt, h.lm, h.le, h.lq⟩
theorem own_far {w w' : World} {base : Nat} {e : TypeId} {size n : Nat} {v : Value} {xs : List Value} {F : List Nat} (h : w.ownsRow base e size v n xs) (k : Keep F w w') (hF : ∀ g ∈ F, g < base) : w'.ownsRow base e size v n xs :=
  own_keep h k (fun g hg hm => by have := (h.lt g hg).1; have := hF g hm; omega)
theorem CopyAt.keep {B : Nat} {w w' : World} {v : ImgV} {x : Img} {F : List Nat} (h : CopyAt B w v x) (k : Keep F w w') (hF : ∀ g ∈ F, g < B) : CopyAt B w' v x :=
  ⟨h.ok, h.ql, own_far h.tasks k hF, own_far h.modes k hF, own_far h.edges k hF, fun i hi hi' => own_far (h.queues i hi hi') k hF, h.lt, h.lm, h.le, h.lq⟩
theorem CopyAt.keep0 {B : Nat} {w w' : World} {v : ImgV} {x : Img} (h : CopyAt B w v x) (k : Keep [] w w') : CopyAt B w' v x := h.keep k (by simp)

theorem slice_task : SliceOf Tryd.prog 22 88 11 88 := ⟨Tryd.underlying22, by kernel_rfl, by decide⟩
theorem slice_mode : SliceOf Tryd.prog 23 76 2 32 := ⟨Tryd.underlying23, by kernel_rfl, by decide⟩
theorem slice_edge : SliceOf Tryd.prog 24 93 23 184 := ⟨Tryd.underlying24, by kernel_rfl, by decide⟩
theorem slice_queue : SliceOf Tryd.prog 74 130 2 16 := ⟨Tryd.underlying74, by kernel_rfl, by decide⟩

theorem own_own_ne {w : World} {B B' : Nat} {e e' : TypeId} {size size' n n' : Nat} {v v' : Value} {xs xs' : List Value} (h : w.ownsRow B e size v n xs) (h' : w.ownsRow B' e' size' v' n' xs') (hne : e ≠ e') {g : Nat} (hg : v.ownBlock = some g) : v'.ownBlock ≠ some g := by
  intro hg'
  rcases h.2 with ⟨rfl, _⟩ | ⟨b, cap, cur, rfl, _, hh, _⟩
  · simp [Value.ownBlock] at hg
  · rcases h'.2 with ⟨rfl, _⟩ | ⟨b', cap', cur', rfl, _, hh', _⟩
    · simp [Value.ownBlock] at hg'
    · simp only [Value.ownBlock, Option.some.injEq] at hg hg'
      subst hg
      subst hg'
      rw [hh] at hh'
      injection hh' with e1
      injection e1 with _ e2
      exact hne e2
/-- The loop's state: the first k modes have queues of their own. -/
structure CpRel (B : Nat) (w wr : World) (v v' : ImgV) (x : Img) (k : Nat) : Prop where
  ql : v'.qa.length = x.modes.length
  tasks : wr.ownsRow B 88 11 (.slice v'.ta x.tasks.length v'.tc) x.tasks.length (x.tasks.flatMap tskCells)
  edges : wr.ownsRow B 93 23 (.slice v'.ea x.edges.length v'.ec) x.edges.length (x.edges.flatMap edgCells)
  modes : wr.ownsRow B 76 2 (.slice v'.ma x.modes.length v'.mc) x.modes.length (rowM x.modes v'.qa)
  done : ∀ j, j < k → (h1 : j < x.modes.length) → (h2 : j < v'.qa.length) → wr.ownsRow B 130 2 (.slice v'.qa[j].1 x.modes[j].qs.length v'.qa[j].2) x.modes[j].qs.length (x.modes[j].qs.flatMap queCells)
  todo : ∀ j, k ≤ j → v'.qa[j]? = v.qa[j]?
  keep : Keep [] w wr
def CopyRet (w : World) (x : Img) (e : Ending) (w' : World) : Prop := ∃ v', e = .returned (.agg (imgCells v' x).toArray) ∧ CopyAt w.heap.size w' v' x ∧ Keep [] w w'
theorem CpRel.later {B : Nat} {w wr w' : World} {v v' : ImgV} {x : Img} {k : Nat} (h : CpRel B w wr v v' x k) (hk : Keep [] wr w') : CpRel B w w' v v' x k :=
  ⟨h.ql, own_keep0 h.tasks hk, own_keep0 h.edges hk, own_keep0 h.modes hk, fun j a b c => own_keep0 (h.done j a b c) hk, h.todo, h.keep.then hk⟩
theorem flat_one {α : Type} {cells : α → List Value} (h : ∀ a, ∀ u ∈ cells a, u.oneCell' = true) (l : List α) : ∀ u ∈ l.flatMap cells, u.oneCell' = true := by
  intro u hu
  obtain ⟨a, _, ha⟩ := List.mem_flatMap.1 hu
  exact h a u ha
theorem mdd_one (m : Mdd × Option Addr × Nat) : ∀ u ∈ mddCells m, u.oneCell' = true := by
  intro u hu
  simp [mddCells] at hu
  rcases hu with rfl | rfl <;> rfl

set_option maxRecDepth 100000 in
set_option maxHeartbeats 2000000 in
theorem copy_any (v : ImgV) (x : Img) (w : World) (h : ImgAt w v x) (g1 : x.tasks.length ≤ 40) (g2 : x.modes.length ≤ 20) (g3 : x.edges.length ≤ 60) (g4 : ∀ m ∈ x.modes, m.qs.length ≤ 20) :
    Calls Tryd.prog 29 #[.agg (imgCells v x).toArray] w (CopyRet w x) := by
  have hb := (img_box w v x).alloc (.cells #[.int .i64 0, .slice none 0 0, .slice none 0 0, .slice none 0 0] 26)
  have hr := Blk.new1 w (.cells (imgCells v x).toArray 26) 26 #[.int .i64 0, .slice none 0 0, .slice none 0 0, .slice none 0 0]
  have K0 := ((Keep.refl [] w).alloc (.cells (imgCells v x).toArray 26)).alloc (.cells #[.int .i64 0, .slice none 0 0, .slice none 0 0, .slice none 0 0] 26)
  have HX := Lib.hid h
  have p0 : (imgCells v x)[0]? = some (.int .i64 x.res) := rfl
  obtain ⟨W0, hW0⟩ : ∃ W0, (w.alloc (.cells (imgCells v x).toArray 26)).alloc (.cells #[.int .i64 0, .slice none 0 0, .slice none 0 0, .slice none 0 0] 26) = W0 := ⟨_, rfl⟩
  rw [hW0] at hb hr K0
  have hsz : W0.heap.size = w.heap.size + 2 := by rw [← hW0]; simp
  have a1 := img_c1 hb
  have hsz' := Lib.hid hsz
  clear h hsz
  generalize hil : (imgCells v x).toArray = il at *
  have hil2 : Hid (il = #[.int .i64 x.res, .slice v.ta x.tasks.length v.tc, .slice v.ma x.modes.length v.mc, .slice v.ea x.edges.length v.ec]) := by show _ = _; rw [← hil]; rfl
  clear hil p0
  go_enter Tryd.func29, Tryd.ntmps29
  rw [hil2.out] at hb
  clear hil2
  have hone1 := flat_one (cells := tskCells) (fun t => iv_one _) x.tasks
  have hone2 := flat_one (cells := edgCells) (fun t => iv_one _) x.edges
  have hone3 := flat_one (cells := mddCells) mdd_one (x.modes.zip v.qa)
  have hone4 := fun (m : Mdd) => flat_one (cells := queCells) (fun t => iv_one _) m.qs
  have s0 := K0.size
  have hzz := hsz'.out
  go_wp2_with (refine stop_at 7 rfl ?_)
  constructor
  clear hW0
  refine wpList_append_reads rfl (.const (.slice none 0 0)) (.tmp 6) 22 rfl slice_task (World.ownsRow_nil _ w.heap.size _ _) rfl (HX.out.tasks.keep0 K0) rfl hone1 (by omega) (by omega) (by unfold maxLen; omega) ?_
  intro v7 w7 o7 k7 _
  rw [Nat.zero_add, List.nil_append] at o7
  obtain ⟨tA, tc, rfl⟩ := own_shape o7
  have k7 : Keep [] W0 w7 := k7
  have hb7 := hb.keep0 k7
  have hr7 := hr.keep0 k7
  have c1 := hb7.cell 1
  have f1 := hb7.frozen 1
  have hb8 : Blk (w7.setCell ⟨w.heap.size, 1, none⟩ (.slice tA x.tasks.length tc)) w.heap.size 26 #[.int .i64 x.res, .slice tA x.tasks.length tc, .slice v.ma x.modes.length v.mc, .slice v.ea x.edges.length v.ec] := hb7.set_ 1 _
  have hr8 := hr7.far (p := ⟨w.heap.size, 1, none⟩) (by simp) (.slice tA x.tasks.length tc)
  have o8 := own_keep o7 (keep_set w7 w.heap.size 1 (.slice tA x.tasks.length tc)) (fun g hg hm => by simp at hm; subst hm; exact own_blk_ne o7 hb7 (by decide) hg)
  have K8 := (K0.then k7).setCell (p := ⟨w.heap.size, 1, none⟩) (by simp) (.slice tA x.tasks.length tc)
  have z8 := k7.size
  clear hb hr hb7 hr7 o7 k7 K0 a1
  have c3 := hb8.cell 3
  go_wp2_with (refine stop_at 11 rfl ?_)
  constructor
  have z8' : (w7.setCell ⟨w.heap.size, 1, none⟩ (.slice tA x.tasks.length tc)).heap.size = w7.heap.size := by simp [World.setCell]
  obtain ⟨w8, hw8⟩ : ∃ w8, w7.setCell ⟨w.heap.size, 1, none⟩ (.slice tA x.tasks.length tc) = w8 := ⟨_, rfl⟩
  rw [hw8] at hb8 hr8 o8 K8 z8' ⊢
  clear hw8 c1 f1 c3
  refine wpList_append_reads rfl (.const (.slice none 0 0)) (.tmp 10) 24 rfl slice_edge (World.ownsRow_nil _ w.heap.size _ _) rfl (HX.out.edges.keep0 K8) rfl hone2 (by omega) (by omega) (by unfold maxLen; omega) ?_
  intro v9 w9 o9 k9 _
  rw [Nat.zero_add, List.nil_append] at o9
  obtain ⟨eA, ec, rfl⟩ := own_shape o9
  have k9 : Keep [] w8 w9 := k9
  have hb9 := hb8.keep0 k9
  have hr9 := hr8.keep0 k9
  have c1 := hb9.cell 3
  have f1 := hb9.frozen 3
  have hb10 : Blk (w9.setCell ⟨w.heap.size, 3, none⟩ (.slice eA x.edges.length ec)) w.heap.size 26 #[.int .i64 x.res, .slice tA x.tasks.length tc, .slice v.ma x.modes.length v.mc, .slice eA x.edges.length ec] := hb9.set_ 3 _
  have hr10 := hr9.far (p := ⟨w.heap.size, 3, none⟩) (by simp) (.slice eA x.edges.length ec)
  have o10 := own_keep o9 (keep_set w9 w.heap.size 3 (.slice eA x.edges.length ec)) (fun g hg hm => by simp at hm; subst hm; exact own_blk_ne o9 hb9 (by decide) hg)
  have ot9 := own_keep0 o8 k9
  have ot10 := own_keep ot9 (keep_set w9 w.heap.size 3 (.slice eA x.edges.length ec)) (fun g hg hm => by simp at hm; subst hm; exact own_blk_ne ot9 hb9 (by decide) hg)
  have K10 := (K8.then k9).setCell (p := ⟨w.heap.size, 3, none⟩) (by simp) (.slice eA x.edges.length ec)
  have z10 := k9.size
  clear hb8 hr8 o8 hb9 hr9 o9 k9 ot9 K8
  have c3 := hb10.cell 2
  go_wp2_with (refine stop_at 15 rfl ?_)
  constructor
  have z10' : (w9.setCell ⟨w.heap.size, 3, none⟩ (.slice eA x.edges.length ec)).heap.size = w9.heap.size := by simp [World.setCell]
  obtain ⟨w10, hw10⟩ : ∃ w10, w9.setCell ⟨w.heap.size, 3, none⟩ (.slice eA x.edges.length ec) = w10 := ⟨_, rfl⟩
  rw [hw10] at hb10 hr10 o10 ot10 K10 z10' ⊢
  clear hw10 c1 f1 c3
  refine wpList_append_reads rfl (.const (.slice none 0 0)) (.tmp 14) 23 rfl slice_mode (World.ownsRow_nil _ w.heap.size _ _) rfl (HX.out.modes.keep0 K10) rfl hone3 (by omega) (by omega) (by unfold maxLen; omega) ?_
  intro v11 w11 o11 k11 _
  rw [Nat.zero_add, List.nil_append] at o11
  obtain ⟨mA, mc, rfl⟩ := own_shape o11
  have k11 : Keep [] w10 w11 := k11
  have hb11 := hb10.keep0 k11
  have hr11 := hr10.keep0 k11
  have R0 : CpRel w.heap.size w w11 v ⟨tA, tc, mA, mc, eA, ec, v.qa⟩ x 0 := ⟨HX.out.ql, own_keep0 ot10 k11, own_keep0 o10 k11, o11, fun j hj => absurd hj (by omega), fun j _ => rfl, K10.then k11⟩
  clear hb10 hr10 o10 ot10 K10 o11 k11
  go_wp2
  go_loopw [18] (fun i wr => ∃ (k : Nat) (qs : List (Option Addr × Nat)), k ≤ x.modes.length ∧ i = .int .i64 k ∧ CpRel w.heap.size w wr v ⟨tA, tc, mA, mc, eA, ec, qs⟩ x k ∧
    Blk wr w.heap.size 26 #[.int .i64 x.res, .slice tA x.tasks.length tc, .slice v.ma x.modes.length v.mc, .slice eA x.edges.length ec] ∧ Blk wr (w.heap.size + 1) 26 #[.int .i64 0, .slice none 0 0, .slice none 0 0, .slice none 0 0]) (fun i _ => x.modes.length - (intOf i).toNat)
  case atStart => exact ⟨0, v.qa, Nat.zero_le _, rfl, R0, hb11, hr11⟩
  case round =>
    clear R0 hb11 hr11
    obtain ⟨k, qs, hk, rfl, R, hb, hr⟩ := hrel
    by_cases hlk : k < x.modes.length
    · have hqk : k < qs.length := by have := R.ql; simp only at this; omega
      have hvk : k < v.qa.length := by have := HX.out.ql; omega
      have hq1 : qs[k] = v.qa[k] := by
        have := R.todo k (Nat.le_refl _)
        simp only at this
        rw [List.getElem?_eq_getElem hqk, List.getElem?_eq_getElem hvk] at this
        simpa using this
      obtain ⟨gm, cap, hv, _, hgl⟩ := R.modes.form (by omega)
      injection hv with hv1 _ hv2
      simp only at hv1 hv2
      subst hv1
      subst hv2
      have hcell := R.modes.cellAt (k * 2 + 1) (by omega)
      rw [rowM_at x.modes qs R.ql k hlk, hq1] at hcell
      have hreads := (HX.out.queues k hlk hvk).keep0 R.keep
      have h20 := g4 _ (List.getElem_mem hlk)
      have hone := hone4 x.modes[k]
      have hzw := R.keep.size
      have hset := Lib.hid (fun A c => rowM_set x.modes qs k A c R.ql hlk)
      have HR := Lib.hid R
      have HQQ := Lib.hid hq1
      clear R hq1
      generalize v.qa[k] = q0 at *
      generalize hmk : x.modes[k].qs = ql at *
      have HMK := Lib.hid hmk
      clear hmk
      go_wp2_with (refine stop_at 28 rfl ?_)
      constructor
      refine wpList_append_reads rfl (.const (.slice none 0 0)) (.tmp 27) 74 rfl slice_queue (World.ownsRow_nil _ w.heap.size _ _) rfl hreads rfl hone hzw (by omega) (by unfold maxLen; omega) ?_
      intro v28 w28 o28 k28 _
      rw [Nat.zero_add, List.nil_append] at o28
      obtain ⟨qA, qc, rfl⟩ := own_shape o28
      have k28 : Keep [] wr w28 := k28
      have R1 := HR.out.later k28
      have hb1 := hb.keep0 k28
      have hr1 := hr.keep0 k28
      have m1 := R1.modes
      have fz := m1.frozenAt (k * 2 + 1)
      obtain ⟨u0, cz⟩ : ∃ u, w28.cell? ⟨gm, k * 2 + 1, none⟩ = some u := ⟨_, (m1.cellAt (k * 2 + 1) (by omega)).trans (rowM_at x.modes qs R1.ql k hlk)⟩
      have st := (m1.stored (k * 2 + 1) (.slice qA ql.length qc)).1
      have gm0 : w.heap.size ≤ gm := (m1.lt gm rfl).1
      have hRel : Hid (CpRel w.heap.size w (w28.setCell ⟨gm, k * 2 + 1, none⟩ (.slice qA ql.length qc)) v ⟨tA, tc, some ⟨gm, 0, none⟩, mc, eA, ec, qs.set k (qA, qc)⟩ x (k + 1)) := by
        refine ⟨by simp only [List.length_set]; exact R1.ql, own_keep R1.tasks (keep_set _ _ _ _) (fun g hg hm => ?_), own_keep R1.edges (keep_set _ _ _ _) (fun g hg hm => ?_), ?_, fun j hj h1 h2 => ?_, fun j hj => ?_, R1.keep.setCell (fun h => by simp at h; omega) _⟩
        · simp at hm; subst hm; exact own_own_ne R1.tasks m1 (by decide) hg rfl
        · simp at hm; subst hm; exact own_own_ne R1.edges m1 (by decide) hg rfl
        · have := hset.out qA qc
          simp only
          rw [← this]
          exact st
        · simp only [List.length_set] at h2
          simp only
          by_cases e : k = j
          · subst e
            rw [List.getElem_set_self, HMK.out]
            exact own_keep o28 (keep_set _ _ _ _) (fun g hg hm => by simp at hm; subst hm; exact own_own_ne o28 m1 (by decide) hg rfl)
          · rw [List.getElem_set_ne e]
            have := R1.done j (by omega) h1 h2
            exact own_keep this (keep_set _ _ _ _) (fun g hg hm => by simp at hm; subst hm; exact own_own_ne this m1 (by decide) hg rfl)
        · simp only
          rw [List.getElem?_set_ne (by omega)]
          exact R1.todo j (by omega)
      have gne1 : w.heap.size ≠ gm := fun e => own_blk_ne m1 hb1 (by decide) (by rw [e]; rfl)
      have gne2 : w.heap.size + 1 ≠ gm := fun e => own_blk_ne m1 hr1 (by decide) (by rw [e]; rfl)
      have hb2 := Lib.hid (hb1.far (p := ⟨gm, k * 2 + 1, none⟩) gne1 (.slice qA ql.length qc))
      have hr2 := Lib.hid (hr1.far (p := ⟨gm, k * 2 + 1, none⟩) gne2 (.slice qA ql.length qc))
      clear HR R1 m1 st o28 hset hreads hcell hb1 hr1 HMK HQQ gne1 gne2
      go_wp2
      go_roundw
      case rel => exact ⟨k + 1, _, by omega, by go_num, hRel.out, hb2.out, hr2.out⟩
      case measure => simp [intOf] <;> omega
    · obtain rfl : k = x.modes.length := by omega
      have hc2 := hb.cell 2
      have hf2 := hb.frozen 2
      have hbL : Blk (wr.setCell ⟨w.heap.size, 2, none⟩ (.slice mA x.modes.length mc)) w.heap.size 26 (imgCells ⟨tA, tc, mA, mc, eA, ec, qs⟩ x).toArray := hb.set_ 2 _
      have hrL := hr.far (p := ⟨w.heap.size, 2, none⟩) (by simp) (.slice mA x.modes.length mc)
      have k1 := keep_set wr w.heap.size 2 (.slice mA x.modes.length mc)
      have hfin : Hid (∀ w5, Keep [w.heap.size + 1] (wr.setCell ⟨w.heap.size, 2, none⟩ (.slice mA x.modes.length mc)) w5 → CopyAt w.heap.size w5 ⟨tA, tc, mA, mc, eA, ec, qs⟩ x ∧ Keep [] w w5) := fun w5 k5 => by
        have kk : Keep [w.heap.size, w.heap.size + 1] wr w5 := (k1.mono (fun y hy _ => by simp at hy; simp [hy])).trans k5 (fun y hy _ => by simp at hy; simp [hy])
        have ne1 : ∀ {e size n : Nat} {u : Value} {xs : List Value}, wr.ownsRow w.heap.size e size u n xs → e ≠ 26 → w5.ownsRow w.heap.size e size u n xs := fun o hne => own_keep o kk (fun g hg hm => by
          simp at hm
          rcases hm with rfl | rfl
          · exact own_blk_ne o hb hne hg
          · exact own_blk_ne o hr hne hg)
        refine ⟨⟨HX.out.ok, R.ql, ne1 R.tasks (by decide), ne1 R.modes (by decide), ne1 R.edges (by decide), fun i hi hi' => ne1 (R.done i hi hi hi') (by decide), HX.out.lt, HX.out.lm, HX.out.le, HX.out.lq⟩, ?_⟩
        exact R.keep.trans kk (fun y hy h => by simp at hy; omega)
      have hzi : ∀ u ∈ imgCells ⟨tA, tc, mA, mc, eA, ec, qs⟩ x, u.oneCell' = true := by
        intro u hu
        simp [imgCells] at hu
        rcases hu with rfl | rfl | rfl | rfl <;> rfl
      have HIL : Hid ((imgCells ⟨tA, tc, mA, mc, eA, ec, qs⟩ x).length = 4) := show _ = _ from rfl
      have hpost : Hid (∀ w5, Keep [w.heap.size + 1] (wr.setCell ⟨w.heap.size, 2, none⟩ (.slice mA x.modes.length mc)) w5 → CopyRet w x (.returned (.agg (imgCells ⟨tA, tc, mA, mc, eA, ec, qs⟩ x).toArray)) w5) := fun w5 k5 => ⟨_, rfl, hfin.out w5 k5⟩
      clear hfin k1 R hb hr
      generalize imgCells ⟨tA, tc, mA, mc, eA, ec, qs⟩ x = L at *
      go_wp2_with (first
        | (refine wpList_load_agg rfl 26 (.tmp 1) rfl rfl (cs := L) (by rw [HIL.out]; exact agg_image) hbL.cellsAt ?_)
        | (refine stop_store 26 (.tmp 2) (.tmp 34) rfl ?_))
      constructor
      refine wpList_store_all rfl 26 (.tmp 2) (.tmp 34) rfl rfl rfl (vs := L) (by rw [HIL.out]; exact agg_image.2) hrL hzi (by rw [HIL.out]; rfl) ?_
      intro w5 hb5 hk5
      have HP := Lib.hid (hpost.out w5 hk5)
      clear hpost hbL hrL
      go_wp2
      refine bodyPost_ret (results_blk rfl _ rfl hb5 (by rw [HIL.out]; exact agg_image)) rfl ?_
      exact HP.out
end Go.Proofs.YteflgdnekflbbaaDoor
