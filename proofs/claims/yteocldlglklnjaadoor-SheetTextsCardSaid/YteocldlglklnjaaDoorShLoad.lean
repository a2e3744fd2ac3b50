/- How much of all time a set of tasks asks for (load). Condition: the table of math/bits lies where the program's text lays it. -/
import Derived.Test.YteocldlglklnjaaDoorRangeB
import Derived.Test.YteocldlglklnjaaDoorTerms
namespace Go.Proofs.YteocldlglklnjaaDoor
open Go.RowKit
attribute [local go_sem] Oper.semAt_some

/-- A task with eight numbers of its own. -/
def nrm (t : Tsk) : Tsk := ⟨t.per, t.ded, t.cost, (t.lon ++ List.replicate 8 0).take 8⟩
theorem nrm_eq {t : Tsk} (h : t.lon.length = 8) : nrm t = t := by
  unfold nrm
  rw [List.take_append_of_le_length (by omega), List.take_of_length_le (by omega)]
theorem nrm_len (t : Tsk) : (nrm t).lon.length = 8 := by unfold nrm; simp
def encK (t : Tsk) : Array Value := #[.agg (tskCells (nrm t)).toArray]
/-- The tasks of some numbers, those that there are. -/
def tksOf (x : Img) (pre : List Nat) : List Tsk := pre.filterMap (fun i => x.tasks[i]?)
theorem tksOf_yes (x : Img) (pre : List Nat) {i : Nat} (h : i < x.tasks.length) : tksOf x (pre ++ [i]) = tksOf x pre ++ [x.tasks[i]] := by
  unfold tksOf
  rw [List.filterMap_append]
  simp [List.getElem?_eq_getElem h]
theorem tksOf_no (x : Img) (pre : List Nat) {i : Nat} (h : x.tasks.length ≤ i) : tksOf x (pre ++ [i]) = tksOf x pre := by
  unfold tksOf
  rw [List.filterMap_append]
  simp [List.getElem?_eq_none h]
theorem tksOf_prefix (x : Img) {a b : List Nat} (h : a <+: b) : tksOf x a <+: tksOf x b := by
  obtain ⟨r, rfl⟩ := h
  unfold tksOf
  rw [List.filterMap_append]
  exact ⟨_, rfl⟩
theorem tksOf_mem {x : Img} {l : List Nat} {t : Tsk} (h : t ∈ tksOf x l) : t ∈ x.tasks := by
  unfold tksOf at h
  obtain ⟨i, _, hi⟩ := List.mem_filterMap.1 h
  exact List.mem_of_getElem? hi

theorem ltasks_any (v : ImgV) (x : Img) (s : Nat) (w : World) : Calls Tryd.prog 31 #[.agg (imgCells v x).toArray, .int .u32 (s : Int)] w fun e w' =>
    e = .returned (.func (.func 57) #[] #[.pointer (some ⟨w.heap.size + 1, 0, none⟩), .pointer (some ⟨w.heap.size, 0, none⟩)]) ∧ (w.alloc (.cells (imgCells v x).toArray 26)).alloc (.cells #[.int .u32 (s : Int)] 50) = w' := by
  generalize (imgCells v x).toArray = cs
  go_enter Tryd.func31, Tryd.ntmps31
  go_wp2
  go_ret
  exact ⟨rfl, rfl⟩

/-- What the iterator holds: the image, the set, the loop's body; and all that lay at the start. -/
structure SK (w0 : World) (Bs Bi By l : Nat) (cs : List Value) (s : Nat) (W : World) : Prop where
  im : Blk W Bi 26 cs.toArray
  st : Blk W Bs 50 #[.int .u32 (s : Int)]
  yl : Blk W By 120 #[.func (.yield l) #[] #[]]
  low : Below w0.heap.size w0 W
abbrev UsK : List Nat := [3]
theorem SK.kp {w0 : World} {Bs Bi By l B0 B2 : Nat} {cs : List Value} {s : Nat} {W W' : World} (h : SK w0 Bs Bi By l cs s W) (k : KpU UsK B0 B2 W W') (hB : w0.heap.size ≤ B0) : SK w0 Bs Bi By l cs s W' :=
  ⟨k.blk h.im (by decide), k.blk h.st (by decide), k.blk h.yl (by decide), h.low.trans (k.below.mono hB)⟩
theorem SK.keep0 {w0 : World} {Bs Bi By l : Nat} {cs : List Value} {s : Nat} {W W' : World} (h : SK w0 Bs Bi By l cs s W) (k : Keep [] W W') : SK w0 Bs Bi By l cs s W' :=
  ⟨h.im.keep0 k, h.st.keep0 k, h.yl.keep0 k, h.low.trans ⟨k.os, k.tape, k.output, k.size, fun x hx => k.block x (Nat.lt_of_lt_of_le hx h.low.size) (by simp)⟩⟩

set_option maxRecDepth 100000 in
set_option maxHeartbeats 2000000 in
theorem ltasks1_seq (n : Nat) (v : ImgV) (x : Img) (s : Nat) (w0 w : World) (hx : ImgAt w0 v x) (hTb : Tab w0) (hw0 : Below w0.heap.size w0 w) (hs : s < 4294967296)
    (Bs Bi : Nat) (hBs : Bs < w.heap.size) (hBi : Bi < w.heap.size)
    (hbs : Blk w Bs 50 #[.int .u32 (s : Int)]) (hbi : Blk w Bi 26 (imgCells v x).toArray) :
    SeqT Fence.wide n Tryd.prog LoN 57 #[.pointer (some ⟨Bs, 0, none⟩), .pointer (some ⟨Bi, 0, none⟩)] encK (KpU UsK w0.heap.size (w.heap.size + 2)) (tksOf x (bitsL s)) w := by
  intro l J Jx W hW hge hJ hJx hY h0
  have hB0 : w0.heap.size ≤ W.heap.size := by have := hw0.size; omega
  have hlow : Below w0.heap.size w0 W := hw0.trans (hW.mono hw0.size)
  have hR : ∀ m pre (y : Tsk) W1, J pre W1 → pre ++ [y] <+: tksOf x (bitsL s) → YieldAt Fence.wide m Tryd.prog l #[.agg (tskCells (nrm y)).toArray] W1 fun e W' =>
      (e = .returned (.bool true) ∧ J (pre ++ [y]) W' ∧ KpU UsK w0.heap.size (w.heap.size + 2) W1 W') ∨ (e = .returned (.bool false) ∧ Jx (pre ++ [y]) W' ∧ KpU UsK w0.heap.size (w.heap.size + 2) W1 W') := fun m pre y W1 hj hp => yieldAt_any open_wide (hY pre y W1 hj hp)
  clear hY
  have hIL : Hid ((imgCells v x).length = 4) := show _ = _ from rfl
  obtain ⟨W0, hW0⟩ : ∃ W0, W.alloc (.cells #[.func (.yield l) #[] #[]] 120) = W0 := ⟨_, rfl⟩
  have K0 : Keep [] W W0 := by rw [← hW0]; exact (Keep.refl _ W).alloc _
  have s0 : SK w0 Bs Bi W.heap.size l (imgCells v x) s W0 := by
    refine ⟨?_, ?_, by rw [← hW0]; exact Blk.new _ _ _, ?_⟩
    · exact Blk.keep0 (show Blk W Bi _ _ from (hW.block Bi hBi).trans hbi) K0
    · exact Blk.keep0 (show Blk W Bs _ _ from (hW.block Bs hBs).trans hbs) K0
    · exact hlow.trans ⟨K0.os, K0.tape, K0.output, K0.size, fun x hx => K0.block x (by omega) (by simp)⟩
  have hz0 : W0.heap.size = W.heap.size + 1 := by rw [← hW0]; simp
  have kk0 : KpU UsK w0.heap.size (w.heap.size + 2) W W0 := kpu_keep0 K0 hB0
  have j0 := hJ.k0 h0 K0
  have c1 : W0.cell? ⟨Bs, 0, none⟩ = some (.int .u32 (s : Int)) := by rw [s0.st.cell]; rfl
  have HW := Lib.hid hW0
  have hSF : ∀ w', SK w0 Bs Bi W.heap.size l (imgCells v x) s w' → w'.cell? ⟨W.heap.size, 0, none⟩ = some (.func (.yield l) #[] #[]) ∧ w'.cell? ⟨Bi, 1, none⟩ = some (.slice v.ta x.tasks.length v.tc) := fun w' h =>
    ⟨by rw [h.yl.cell]; rfl, by rw [h.im.cell]; rfl⟩
  have HTb : ∀ w', SK w0 Bs Bi W.heap.size l (imgCells v x) s w' → Tab w' := fun w' h => hTb.keep0 (keepB h.low)
  have HIm : ∀ w', SK w0 Bs Bi W.heap.size l (imgCells v x) s w' → ImgAt w' v x := fun w' h => hx.keep0 (keepB h.low)
  have hl := hx.lt
  unfold maxLen at hl
  have hlon := hx.ok.lon
  have hT00 := hTb.1
  have HS0 := Lib.hid s0
  clear hx hTb hbs hbi hW0 h0 s0
  rw [callsIn_wide, ← callsIn_wide (n := 9)]
  refine callsIn_of_wp_marks Tryd.func57 rfl trivial ?_ rfl
  simp only [Tryd.ntmps57, List.size_toArray, List.length_cons, List.length_nil, Nat.reduceAdd, Nat.reduceSub, Array.replicate_succ, Array.replicate_zero, List.push_toArray, List.append_toArray, List.nil_append, List.cons_append]
  gi_wp2_with (first | rw [HW.out] | (refine ⟨trivial, ?_⟩; gi_at_call 47; refine (callsIn_wide.2 (maskAll_any s W0)).mono ?_))
  rintro e w4 ⟨rfl, hw4⟩
  have k4 : Keep [] W0 w4 := by rw [← hw4]; exact (Keep.refl _ W0).alloc _
  have d4 : Blk w4 (W.heap.size + 1) 50 #[.int .u32 (s : Int)] := by rw [← hz0, ← hw4]; exact Blk.new _ _ _
  have hz4 : w4.heap.size = W.heap.size + 2 := by rw [← hw4]; simp; omega
  have hS4 := HS0.out.keep0 k4
  have j4 := hJ.k0 j0 k4
  have kk4 := kk0.step k4 (by simp) hB0
  have T4 := HTb w4 hS4
  clear hw4 j0 kk0 k4 c1
  gi_wp2
  have hss := maskAll1_seq 8 s (W.heap.size + 1) w4 (by omega) d4 hs T4
  have hT0 := T4.1
  refine wpIn_rangeT (F := Fence.wide) (n := 9) (Lo := LoN) (ps := #[7]) rfl (by omega) (gf := 66) (lb := #[.pointer (some ⟨(W.heap.size + 1), 0, none⟩)]) rfl trivial (enters_of Tryd.func66 (by kernel_rfl) rfl)
    (hss.toT _) Same.trans (fun W _ o' _ _ => same_putO (by simp; omega) o') (Below.refl _ _) (fun _ => rfl)
    (fun pre W' => J (tksOf x pre) W' ∧ (SK w0 Bs Bi W.heap.size l (imgCells v x) s W' ∧ KpU UsK w0.heap.size (w.heap.size + 2) W W' ∧ Blk W' (W.heap.size + 1) 50 #[.int .u32 (s : Int)]))
    (fun c' _ W' => c' = .ret ∧ ∃ q, q <+: tksOf x (bitsL s) ∧ Jx q W')
    ?hI ?hIx ⟨j4, hS4, kk4, d4⟩
    (fun i => { tmps := #[.func (.yield l) #[] #[], .pointer (some ⟨Bs, 0, none⟩), .pointer (some ⟨Bi, 0, none⟩), .pointer (some ⟨W.heap.size, 0, none⟩), .int .i64 (i : Int), .int .u32 (s : Int), .func (.func 66) #[] #[.pointer (some ⟨(W.heap.size + 1), 0, none⟩)],
      .int .i64 (i : Int), undef, undef, undef, undef, undef, undef, undef, undef, undef, undef, undef, undef, undef, undef, undef], defers := [] }) ?assign ?body ?done ?stop
  case hI =>
    refine OwnFrom.toT (OwnFrom.and ?_ (OwnFrom.and ?_ (OwnFrom.and ?_ ?_)))
    · exact fun pre X Y row hs hg hr => hJ.own _ X Y row hs hg (fun r e => ⟨by have := (hr r e).1; omega, (hr r e).2⟩)
    · exact fun pre X Y row hs hg hr => ⟨blk_own (β := Unit) _ _ (fun _ => _) () X Y row hs.im hg hr, blk_own (β := Unit) _ _ (fun _ => _) () X Y row hs.st hg hr, blk_own (β := Unit) _ _ (fun _ => _) () X Y row hs.yl hg hr, by
        have k : Keep row.toList X Y := Keep.of_grown hg
        exact hs.low.trans ⟨k.os, k.tape, k.output, k.size, fun y hy => k.block y (Nat.lt_of_lt_of_le hy hs.low.size) (fun hm => by have := (hr y (by simpa using hm)).1; omega)⟩⟩
    · exact fun pre X Y row hs hg hr => KpU.own hB0 () X Y row hs hg (fun r e => ⟨by have := (hr r e).1; omega, (hr r e).2⟩)
    · exact blk_own _ _ _
  case hIx =>
    intro c'
    refine OwnFrom.toT (OwnFrom.and (fun _ _ _ _ hs _ _ => hs) ?_)
    rintro pre X Y row ⟨q, hq, hs⟩ hg hr
    exact ⟨q, hq, hJx.own _ X Y row hs hg (fun r e => ⟨by have := (hr r e).1; omega, (hr r e).2⟩)⟩
  case assign =>
    intro l' i W' K hK
    simp only [encN]
    gi_wp2
    exact hK
  case body =>
    rintro l' pre i Wb ⟨hj, hs', hk, hd⟩ hpre
    by_cases hi : i < x.tasks.length
    · have hte := tksOf_yes x pre hi
      have hp2 : tksOf x pre ++ [x.tasks[i]] <+: tksOf x (bitsL s) := by rw [← hte]; exact tksOf_prefix x hpre
      have hi1 : (i : Int) < (x.tasks.length : Int) := by omega
      have hi0 : (0 : Int) ≤ (i : Int) := by omega
      have hdec : decide ((i : Int) < (x.tasks.length : Int)) = true := decide_eq_true hi1
      have HTL : Hid ((tskCells x.tasks[i]).length = 11) := tskCells_len (hlon _ (List.getElem_mem hi))
      obtain ⟨b, o, hA, hbw, hcs2⟩ := (HIm Wb hs').task (by omega)
      have hTC : ∀ w', SK w0 Bs Bi W.heap.size l (imgCells v x) s w' → CellsAt w' b (o + i * 11) (tskCells x.tasks[i]) := fun w' h => by
        obtain ⟨b', o', hA', _, hcs'⟩ := (HIm w' h).task (by omega)
        rw [hA] at hA'
        cases hA'
        exact hcs' i hi
      have hSF2 : ∀ w', SK w0 Bs Bi W.heap.size l (imgCells v x) s w' → w'.cell? ⟨W.heap.size, 0, none⟩ = some (.func (.yield l) #[] #[]) ∧ w'.cell? ⟨Bi, 1, none⟩ = some (.slice (some ⟨b, o, none⟩) x.tasks.length v.tc) := fun w' h => by
        obtain ⟨h2, h3⟩ := hSF w' h
        rw [hA] at h3
        exact ⟨h2, h3⟩
      gi_wp2
      refine ai_start (SK w0 Bs Bi W.heap.size l (imgCells v x) s) rfl rfl (hs'.keep0 (Keep.refl _ _).drew) (fun hND hS hPan => ?_)
      have jb := hJ.k0 hj (Keep.refl _ Wb).drew
      have kb : KpU UsK w0.heap.size (w.heap.size + 2) W Wb.drew := hk.step (F := []) (Keep.refl _ Wb).drew (by simp) hB0
      have db : Blk Wb.drew (W.heap.size + 1) 50 #[.int .u32 (s : Int)] := hd
      have hdr : ∀ k : Nat, Wb.drew.heap[k]? = Wb.heap[k]? := fun k => rfl
      have hdz : Wb.drew.heap.size = Wb.heap.size := rfl
      generalize Wb.drew = wd at *
      clear hSF HIm HTb hss
      (refine ai_val (v := ?_) 0 rfl (open_round _) hND (by kernel_rfl) (by kernel_rfl) (by kernel_rfl) (by rfl) hPan ?_ hS ?_; rotate_left; (intro w' hSw; obtain ⟨f0, f1⟩ := hSF2 w' hSw; go_simp; try with_reducible rfl); simp only [Act.put, List.setIfInBounds_toArray, List.set_cons_zero, List.set_cons_succ])
      (refine ai_val (v := ?_) 1 rfl (open_round _) hND (by kernel_rfl) (by kernel_rfl) (by kernel_rfl) (by rfl) hPan ?_ hS ?_; rotate_left; (intro w' hSw; obtain ⟨f0, f1⟩ := hSF2 w' hSw; go_simp; try with_reducible rfl); simp only [Act.put, List.setIfInBounds_toArray, List.set_cons_zero, List.set_cons_succ])
      (refine ai_val (v := ?_) 2 rfl (open_round _) hND (by kernel_rfl) (by kernel_rfl) (by kernel_rfl) (by rfl) hPan ?_ hS ?_; rotate_left; (intro w' hSw; obtain ⟨f0, f1⟩ := hSF2 w' hSw; go_simp; try with_reducible rfl); simp only [Act.put, List.setIfInBounds_toArray, List.set_cons_zero, List.set_cons_succ])
      (refine ai_val (v := ?_) 3 rfl (open_round _) hND (by kernel_rfl) (by kernel_rfl) (by kernel_rfl) (by rfl) hPan ?_ hS ?_; rotate_left; (intro w' hSw; obtain ⟨f0, f1⟩ := hSF2 w' hSw; go_simp; try with_reducible rfl); simp only [Act.put, List.setIfInBounds_toArray, List.set_cons_zero, List.set_cons_succ])
      (refine ai_val (v := ?_) 4 rfl (open_round _) hND (by kernel_rfl) (by kernel_rfl) (by kernel_rfl) (by rfl) hPan ?_ hS ?_; rotate_left; (intro w' hSw; obtain ⟨f0, f1⟩ := hSF2 w' hSw; go_simp; try with_reducible rfl); simp only [Act.put, List.setIfInBounds_toArray, List.set_cons_zero, List.set_cons_succ])
      (refine ai_val (v := ?_) 5 rfl (open_round _) hND (by kernel_rfl) (by kernel_rfl) (by kernel_rfl) (by rfl) hPan ?_ hS ?_; rotate_left; (intro w' hSw; obtain ⟨f0, f1⟩ := hSF2 w' hSw; go_simp; try with_reducible rfl); simp only [Act.put, List.setIfInBounds_toArray, List.set_cons_zero, List.set_cons_succ])
      (refine ai_val (v := ?_) 6 rfl (open_round _) hND (by kernel_rfl) (by kernel_rfl) (by kernel_rfl) (by rfl) hPan ?_ hS ?_; rotate_left; (intro w' hSw; obtain ⟨f0, f1⟩ := hSF2 w' hSw; go_simp; try with_reducible rfl); simp only [Act.put, List.setIfInBounds_toArray, List.set_cons_zero, List.set_cons_succ])
      (refine ai_val (v := ?_) 7 rfl (open_round _) hND (by kernel_rfl) (by kernel_rfl) (by kernel_rfl) (by rfl) hPan ?_ hS ?_; rotate_left; (intro w' hSw; obtain ⟨f0, f1⟩ := hSF2 w' hSw; go_simp; try with_reducible rfl); simp only [Act.put, List.setIfInBounds_toArray, List.set_cons_zero, List.set_cons_succ])
      (refine ai_val (v := ?_) 8 rfl (open_round _) hND (by kernel_rfl) (by kernel_rfl) (by kernel_rfl) (by rfl) hPan ?_ hS ?_; rotate_left; (intro w' hSw; obtain ⟨f0, f1⟩ := hSF2 w' hSw; go_simp; try with_reducible rfl); simp only [Act.put, List.setIfInBounds_toArray, List.set_cons_zero, List.set_cons_succ])
      (refine ai_val (v := ?_) 9 rfl (open_round _) hND (by kernel_rfl) (by kernel_rfl) (by kernel_rfl) (by rfl) hPan ?_ hS ?_; rotate_left; (intro w' hSw; obtain ⟨f0, f1⟩ := hSF2 w' hSw; go_simp; try with_reducible rfl); simp only [Act.put, List.setIfInBounds_toArray, List.set_cons_zero, List.set_cons_succ])
      (refine ai_val (v := ?_) 10 rfl (open_round _) hND (by kernel_rfl) (by kernel_rfl) (by kernel_rfl) (by rfl) hPan ?_ hS ?_; rotate_left; (intro w' hSw; obtain ⟨f0, f1⟩ := hSF2 w' hSw; go_simp; try with_reducible rfl); simp only [Act.put, List.setIfInBounds_toArray, List.set_cons_zero, List.set_cons_succ])
      refine ai_agg 11 39 (.tmp 18) (tskCells x.tasks[i]) rfl (open_round _) hND (by kernel_rfl) (by kernel_rfl) (by kernel_rfl) (by rfl) hPan rfl rfl (by rw [HTL.out]; exact agg_task) hTC hS ?_
      (simp only [Act.put, List.setIfInBounds_toArray, List.set_cons_zero, List.set_cons_succ])
      have hRi := hR 6 _ _ wd jb hp2
      rw [nrm_eq (hlon _ (List.getElem_mem hi))] at hRi
      refine ai_one 12 (by kernel_rfl) (oi_yield 12 rfl (open_round _) hND (by rfl) rfl rfl (vs := #[.agg (tskCells x.tasks[i]).toArray]) (by simp only [List.map_toArray, List.map_cons, List.map_nil]; rfl) hRi rfl ?_)
      rintro e w8 (⟨rfl, j8, kr⟩ | ⟨rfl, jx, kr⟩)
      all_goals
        have d8 := kr.blk db (by decide)
        have hS8 := hS.kp kr (Nat.le_refl _)
        have hkf : KeepsFrom w4.heap.size Wb w8 := ⟨by have := kr.other.size; omega, fun k o hk2 ho hc => kr.other.same k o (by omega) ((hdr k).trans ho) hc⟩
        have hsm : Same [(W.heap.size + 1), 0] Wb w8 := by
          intro y hy
          simp only [List.mem_cons, List.not_mem_nil, or_false] at hy
          rcases hy with rfl | rfl
          · exact (show w8.heap[(W.heap.size + 1)]? = _ from d8).trans (show Wb.heap[(W.heap.size + 1)]? = _ from hd).symm
          · exact (kr.below.block _ hT00).trans (hdr _)
        refine ⟨_, rfl, hS8, ?_⟩
        replace hS := hS8
        (simp only [Act.put, List.setIfInBounds_toArray, List.set_cons_zero, List.set_cons_succ])
        (refine ai_val (v := ?_) 13 rfl (open_round _) hND (by kernel_rfl) (by kernel_rfl) (by kernel_rfl) (by rfl) hPan ?_ hS ?_; rotate_left; (intro w' hSw; go_simp; try with_reducible rfl); simp only [Act.put, List.setIfInBounds_toArray, List.set_cons_zero, List.set_cons_succ])
        (refine ai_val (v := ?_) 14 rfl (open_round _) hND (by kernel_rfl) (by kernel_rfl) (by kernel_rfl) (by rfl) hPan ?_ hS ?_; rotate_left; (intro w' hSw; go_simp; try with_reducible rfl); simp only [Act.put, List.setIfInBounds_toArray, List.set_cons_zero, List.set_cons_succ])
        refine ai_end (by kernel_rfl) ?_ _
        gi_wp2
      · exact ⟨hkf, hsm, by rw [hte]; exact j8, hS8, kb.trans kr, d8⟩
      · exact ⟨hkf, hsm, rfl, _, hp2, jx⟩
    · have hte := tksOf_no x pre (show x.tasks.length ≤ i by omega)
      have hdec : decide ((i : Int) < (x.tasks.length : Int)) = false := decide_eq_false (by omega)
      gi_wp2
      refine ai_start (SK w0 Bs Bi W.heap.size l (imgCells v x) s) rfl rfl (hs'.keep0 (Keep.refl _ _).drew) (fun hND hS hPan => ?_)
      have jb := hJ.k0 hj (Keep.refl _ Wb).drew
      have kb : KpU UsK w0.heap.size (w.heap.size + 2) W Wb.drew := hk.step (F := []) (Keep.refl _ Wb).drew (by simp) hB0
      have db : Blk Wb.drew (W.heap.size + 1) 50 #[.int .u32 (s : Int)] := hd
      have hdr : ∀ k : Nat, Wb.drew.heap[k]? = Wb.heap[k]? := fun k => rfl
      have hdz : Wb.drew.heap.size = Wb.heap.size := rfl
      generalize Wb.drew = wd at *
      clear HIm HTb hss
      (refine ai_val (v := ?_) 0 rfl (open_round _) hND (by kernel_rfl) (by kernel_rfl) (by kernel_rfl) (by rfl) hPan ?_ hS ?_; rotate_left; (intro w' hSw; obtain ⟨f0, f1⟩ := hSF w' hSw; go_simp; try with_reducible rfl); simp only [Act.put, List.setIfInBounds_toArray, List.set_cons_zero, List.set_cons_succ])
      (refine ai_val (v := ?_) 1 rfl (open_round _) hND (by kernel_rfl) (by kernel_rfl) (by kernel_rfl) (by rfl) hPan ?_ hS ?_; rotate_left; (intro w' hSw; obtain ⟨f0, f1⟩ := hSF w' hSw; go_simp; try with_reducible rfl); simp only [Act.put, List.setIfInBounds_toArray, List.set_cons_zero, List.set_cons_succ])
      (refine ai_val (v := ?_) 2 rfl (open_round _) hND (by kernel_rfl) (by kernel_rfl) (by kernel_rfl) (by rfl) hPan ?_ hS ?_; rotate_left; (intro w' hSw; obtain ⟨f0, f1⟩ := hSF w' hSw; go_simp; try with_reducible rfl); simp only [Act.put, List.setIfInBounds_toArray, List.set_cons_zero, List.set_cons_succ])
      (refine ai_val (v := ?_) 3 rfl (open_round _) hND (by kernel_rfl) (by kernel_rfl) (by kernel_rfl) (by rfl) hPan ?_ hS ?_; rotate_left; (intro w' hSw; obtain ⟨f0, f1⟩ := hSF w' hSw; go_simp; try with_reducible rfl); simp only [Act.put, List.setIfInBounds_toArray, List.set_cons_zero, List.set_cons_succ])
      (refine ai_val (v := ?_) 4 rfl (open_round _) hND (by kernel_rfl) (by kernel_rfl) (by kernel_rfl) (by rfl) hPan ?_ hS ?_; rotate_left; (intro w' hSw; obtain ⟨f0, f1⟩ := hSF w' hSw; go_simp; try with_reducible rfl); simp only [Act.put, List.setIfInBounds_toArray, List.set_cons_zero, List.set_cons_succ])
      (refine ai_val (v := ?_) 5 rfl (open_round _) hND (by kernel_rfl) (by kernel_rfl) (by kernel_rfl) (by rfl) hPan ?_ hS ?_; rotate_left; (intro w' hSw; obtain ⟨f0, f1⟩ := hSF w' hSw; go_simp; try with_reducible rfl); simp only [Act.put, List.setIfInBounds_toArray, List.set_cons_zero, List.set_cons_succ])
      (refine ai_off 6 rfl (open_round _) hND (by kernel_rfl) (by kernel_rfl) (by kernel_rfl) (by rfl) hPan hS ?_; simp only [Act.put, List.setIfInBounds_toArray, List.set_cons_zero, List.set_cons_succ])
      (refine ai_off 7 rfl (open_round _) hND (by kernel_rfl) (by kernel_rfl) (by kernel_rfl) (by rfl) hPan hS ?_; simp only [Act.put, List.setIfInBounds_toArray, List.set_cons_zero, List.set_cons_succ])
      (refine ai_off 8 rfl (open_round _) hND (by kernel_rfl) (by kernel_rfl) (by kernel_rfl) (by rfl) hPan hS ?_; simp only [Act.put, List.setIfInBounds_toArray, List.set_cons_zero, List.set_cons_succ])
      (refine ai_off 9 rfl (open_round _) hND (by kernel_rfl) (by kernel_rfl) (by kernel_rfl) (by rfl) hPan hS ?_; simp only [Act.put, List.setIfInBounds_toArray, List.set_cons_zero, List.set_cons_succ])
      (refine ai_off 10 rfl (open_round _) hND (by kernel_rfl) (by kernel_rfl) (by kernel_rfl) (by rfl) hPan hS ?_; simp only [Act.put, List.setIfInBounds_toArray, List.set_cons_zero, List.set_cons_succ])
      (refine ai_off 11 rfl (open_round _) hND (by kernel_rfl) (by kernel_rfl) (by kernel_rfl) (by rfl) hPan hS ?_; simp only [Act.put, List.setIfInBounds_toArray, List.set_cons_zero, List.set_cons_succ])
      (refine ai_off 12 rfl (open_round _) hND (by kernel_rfl) (by kernel_rfl) (by kernel_rfl) (by rfl) hPan hS ?_; simp only [Act.put, List.setIfInBounds_toArray, List.set_cons_zero, List.set_cons_succ])
      (refine ai_off 13 rfl (open_round _) hND (by kernel_rfl) (by kernel_rfl) (by kernel_rfl) (by rfl) hPan hS ?_; simp only [Act.put, List.setIfInBounds_toArray, List.set_cons_zero, List.set_cons_succ])
      (refine ai_val (v := ?_) 14 rfl (open_round _) hND (by kernel_rfl) (by kernel_rfl) (by kernel_rfl) (by rfl) hPan ?_ hS ?_; rotate_left; (intro w' hSw; go_simp; try with_reducible rfl); simp only [Act.put, List.setIfInBounds_toArray, List.set_cons_zero, List.set_cons_succ])
      refine ai_end (by kernel_rfl) ?_ _
      gi_wp2
      exact ⟨⟨by omega, fun k o _ ho _ => (hdr k).trans ho⟩, fun y _ => hdr y, by rw [hte]; exact jb, hS, kb, db⟩
  case done =>
    rintro D Wd hD ⟨hj, hs, hk, hd⟩ hD2
    gi_wp2
    refine ⟨by simp, .inl ⟨_, _, rfl, run_takeDeferred hD2, ?_⟩⟩
    refine ⟨_, by simp [results, Tryd.results57, go_sem]; rfl, ⟨_, rfl⟩, .inl ?_⟩
    exact hJ.own.putObj _ hj (by omega) hD2 rfl
  case stop =>
    rintro D c' pre Wd hD hpre ⟨rfl, q, hq, hjx⟩ hD2
    gi_wp2
    refine ⟨by simp, .inl ⟨_, _, rfl, run_takeDeferred hD2, ?_⟩⟩
    exact ⟨_, by simp [results, Tryd.results57, go_sem]; rfl, ⟨_, rfl⟩, .inr ⟨q, hq, hJx.own.putObj _ hjx (by omega) hD2 rfl⟩⟩

def loadStep (all : Int) (t : Tsk) : Int := match upM (1000 * min (max t.cost 0) 4096) t.per with | some n => all + n | none => all
def loadL (ts : List Tsk) : Int := ts.foldl loadStep 0
theorem loadL_snoc (ts : List Tsk) (t : Tsk) : loadL (ts ++ [t]) = loadStep (loadL ts) t := by unfold loadL; rw [List.foldl_append]; rfl
theorem upM_le {a b n : Int} (h : upM a b = some n) : 0 ≤ n ∧ n ≤ a := by
  unfold upM at h
  split at h
  · rename_i hc
    simp only [Bool.and_eq_true, inM_iff, Bool.not_eq_true', beq_eq_false_iff_ne, ne_eq] at hc
    injection h with h
    split at h
    · omega
    · have h1 : (a - 1) / b ≤ a - 1 := Int.ediv_le_self _ (by omega)
      have h2 : 0 ≤ (a - 1) / b := Int.ediv_nonneg (by omega) (by omega)
      omega
  · cases h
theorem loadStep_le (n : Int) (t : Tsk) : n ≤ loadStep n t ∧ loadStep n t ≤ n + 4096000 := by
  unfold loadStep
  cases e : upM (1000 * min (max t.cost 0) 4096) t.per with
  | none => simp only; omega
  | some k =>
    have := upM_le e
    simp only
    omega
theorem loadL_le (ts : List Tsk) : 0 ≤ loadL ts ∧ loadL ts ≤ 4096000 * (ts.length : Int) := by
  unfold loadL
  suffices ∀ (ts : List Tsk) (n : Int), n ≤ ts.foldl loadStep n ∧ ts.foldl loadStep n ≤ n + 4096000 * (ts.length : Int) by
    have := this ts 0
    omega
  intro ts
  induction ts with
  | nil => intro n; simp
  | cons t ts ih =>
    intro n
    have h1 := ih (loadStep n t)
    have h2 := loadStep_le n t
    rw [List.foldl_cons, List.length_cons]
    omega
theorem tksOf_len (x : Img) (l : List Nat) : (tksOf x l).length ≤ l.length := List.length_filterMap_le ..
/-- How much of all time some tasks of an image ask for. -/
def loadM (x : Img) (s : Nat) : Int := loadL (tksOf x (bitsL s))

set_option maxRecDepth 100000 in
set_option maxHeartbeats 2000000 in
theorem loadOf_any (v : ImgV) (x : Img) (s : Nat) (w : World) (hTb : Tab w) (hx : ImgAt w v x) (hs : s < 4294967296) :
    Calls Tryd.prog 9 #[.agg (imgCells v x).toArray, .int .u32 (s : Int)] w fun e w' => e = .returned (.int .i64 (loadM x s)) ∧ Keep [] w w' := by
  rw [← callsIn_wide (n := 9)]
  obtain ⟨W0, hW0⟩ : ∃ W0, (w.alloc (.cells (imgCells v x).toArray 26)).alloc (.cells #[.int .i64 0] 3) = W0 := ⟨_, rfl⟩
  have b0 : Blk W0 w.heap.size 26 (imgCells v x).toArray := by rw [← hW0]; exact (img_box w v x).alloc _
  have b1 : Blk W0 (w.heap.size + 1) 3 #[.int .i64 0] := by rw [← hW0]; exact Blk.new1 _ _ _ _
  have K0 : Keep [] w W0 := by rw [← hW0]; exact ((Keep.refl [] w).alloc _).alloc _
  have hz0 : Hid (W0.heap.size = w.heap.size + 2) := by show _ = _; rw [← hW0]; simp
  have HIC : Hid ((imgCells v x).length = 4) := show _ = _ from rfl
  have HIr := Lib.hid b0.cellsAt
  have HTk := Lib.hid (ltasks_any v x s W0)
  have HW := Lib.hid hW0
  have HB1 := Lib.hid b1
  have hlon := hx.ok.lon
  have hbl := fun t h => hlon t (tksOf_mem (x := x) (l := bitsL s) (t := t) h)
  have hlen := tksOf_len x (bitsL s)
  have hle := bitsL_le s
  obtain ⟨il, hil⟩ : ∃ il, imgCells v x = il := ⟨_, rfl⟩
  have HTk' := HTk
  rw [hil] at HIC HIr HTk HW
  have b0' := Lib.hid b0
  clear b0 b1 hW0
  refine callsIn_of_wp_marks Tryd.func9 rfl trivial ?_ rfl
  simp only [Tryd.ntmps9, List.size_toArray, List.length_cons, List.length_nil, Nat.reduceAdd, Nat.reduceSub, Array.replicate_succ, Array.replicate_zero, List.push_toArray, List.append_toArray, List.nil_append, List.cons_append]
  rw [hil]
  gi_wp2_with (first
    | (rw [HW.out]; refine wpListIn_agg rfl 26 (.tmp 2) rfl rfl (cs := il) (by rw [HIC.out]; exact agg_image) HIr.out ?_)
    | (refine ⟨trivial, ?_⟩; gi_at_call 31; refine (callsIn_wide.2 HTk.out).mono ?_))
  rintro e w4 ⟨rfl, hw4⟩
  have k4 : Keep [] W0 w4 := by rw [← hw4]; exact ((Keep.refl _ W0).alloc _).alloc _
  have hz := hz0.out
  have di : Blk w4 (w.heap.size + 2) 26 (imgCells v x).toArray := by rw [← hz, ← hw4, hil]; exact (Blk.new _ _ _).alloc _
  have ds : Blk w4 (w.heap.size + 3) 50 #[.int .u32 (s : Int)] := by rw [← hw4, show w.heap.size + 3 = W0.heap.size + 1 by omega]; exact Blk.new1 _ _ _ _
  have hb4 := HB1.out.keep0 k4
  have hz4 : Hid (w4.heap.size = w.heap.size + 4) := by show _ = _; rw [← hw4]; simp; omega
  have K4 : Keep [] w w4 := K0.then k4
  have hss := ltasks1_seq 8 v x s w w4 hx hTb K4.below hs (w.heap.size + 3) (w.heap.size + 2) (by have := hz4.out; omega) (by have := hz4.out; omega) ds di
  have hp1 : W0.heap.size + 1 = w.heap.size + 3 := by omega
  rw [hp1, hz]
  clear hw4 k4 HW HTk HTk' HIr hz K0 di ds hp1
  gi_wp2
  refine wpIn_rangeB (F := Fence.wide) (n := 9) (Lo := LoN) (ps := #[12]) rfl (by omega) (gf := 57) (lb := #[.pointer (some ⟨w.heap.size + 3, 0, none⟩), .pointer (some ⟨w.heap.size + 2, 0, none⟩)]) rfl trivial (enters_of Tryd.func57 (by kernel_rfl) rfl)
    hss KpU.trans (fun W o o' h1 h2 => kpu_put o' (by have := hz4.out; omega) (by omega) h1 h2) (Below.refl _ _) (fun _ => rfl)
    (fun pre W' => Blk W' (w.heap.size + 1) 3 #[.int .i64 (loadL pre)] ∧ Keep [w.heap.size + 1] w4 W')
    (fun _ _ _ => False)
    (OwnFrom.toT (OwnFrom.and (blk_own _ _ _) (keep_own (Nat.le_refl _)))) (fun _ _ _ _ _ hs _ _ => hs) ⟨hb4, Keep.refl _ _⟩
    (fun y a1 W' => ∃ g, Blk W' g 39 (tskCells (nrm y)).toArray ∧ a1 = { tmps := #[.agg il.toArray, .int .u32 (s : Int), .pointer (some ⟨w.heap.size, 0, none⟩), undef, .int .i64 0, .pointer (some ⟨w.heap.size + 1, 0, none⟩), .pointer (some ⟨g, 0, none⟩), undef, undef,
      .agg il.toArray, .int .u32 (s : Int), .func (.func 57) #[] #[.pointer (some ⟨w.heap.size + 3, 0, none⟩), .pointer (some ⟨w.heap.size + 2, 0, none⟩)], .agg (tskCells (nrm y)).toArray,
      undef, undef, undef, undef, undef, undef, undef, undef, undef, undef, undef, undef, undef, undef, undef, undef, undef], defers := [] })
    ?hPA ?hKa ?assign ?body ?done ?stop
  case hPA =>
    rintro y a1 _ X Y row ⟨g, hb, e⟩ hg hr
    exact ⟨g, blk_own (β := Unit) _ _ (fun _ => _) () X Y row hb hg hr, e⟩
  case hKa => exact fun W W2 hz k => kpu_keep0 k (by have := hz4.out; omega)
  case assign =>
    intro l y W K hz hK
    simp only [encK]
    have HTL : Hid ((tskCells (nrm y)).length = 11) := tskCells_len (nrm_len y)
    have hone : ∀ u ∈ tskCells (nrm y), u.oneCell' = true := iv_one (tskInts (nrm y))
    generalize tskCells (nrm y) = tc at *
    gi_wp2_with (refine stopIn_store 39 (.tmp 6) (.tmp 12) rfl ?_)
    constructor
    refine wpListIn_store_all rfl 39 (.tmp 6) (.tmp 12) rfl rfl rfl (vs := tc) (by rw [HTL.out]; exact agg_task.2) (Blk.new _ _ _) hone (by rw [HTL.out]; rfl) ?_
    intro w5 d5 k5
    gi_wp2
    exact hK _ _ (((Keep.refl [] W).alloc _).trans k5 (fun z hz hlt => by simp at hz; omega)) ⟨W.heap.size, d5, rfl⟩
  case body =>
    rintro l pre y a1 W hz ⟨hb, hK⟩ ⟨g, hg, rfl⟩ hpre
    have HSN : Hid (loadL (pre ++ [y]) = loadStep (loadL pre) y) := loadL_snoc pre y
    have hle1 := loadL_le pre
    have hlen2 := hpre.length_le
    simp only [List.length_append, List.length_cons, List.length_nil] at hlen2
    have c0 : W.cell? ⟨g, 0, none⟩ = some (.int .i64 y.per) := by rw [hg.cell]; rfl
    have c2 : W.cell? ⟨g, 2, none⟩ = some (.int .i64 y.cost) := by rw [hg.cell]; rfl
    have hcv := hb.cell 0
    have hfv := hb.frozen 0
    simp at hcv
    have HU := Lib.hid (cup_any (1000 * min (max y.cost 0) 4096) y.per W)
    have hUL := fun n (h : upM (1000 * min (max y.cost 0) 4096) y.per = some n) => upM_le h
    unfold loadStep at HSN
    have HB := Lib.hid hb
    have HKK := Lib.hid hK
    have hzz := hz4.out
    have hks := hK.size
    clear hg hss hb hK hpre hbl hlon
    generalize loadL pre = q at *
    generalize y.per = yp at *
    obtain ⟨m, hm, hmb⟩ : ∃ m, 1000 * min (max y.cost 0) 4096 = m ∧ 0 ≤ m ∧ m ≤ 4096000 := ⟨_, rfl, by omega⟩
    rw [hm] at HU HSN hUL
    have hcc : (y.cost < 0 ∧ m = 0) ∨ (0 ≤ y.cost ∧ y.cost ≤ 4096 ∧ m = 1000 * y.cost) ∨ (4096 < y.cost ∧ m = 4096000) := by omega
    clear hm
    generalize y.cost = yc at *
    generalize tskCells (nrm y) = tc at *
    have hfin : ∀ u : Int, loadL (pre ++ [y]) = u → ownPostT w4.heap.size (KpU UsK w.heap.size (w4.heap.size + 2)) (fun pre W' => Blk W' (w.heap.size + 1) 3 #[.int .i64 (loadL pre)] ∧ Keep [w.heap.size + 1] w4 W') (fun _ _ _ => False) (pre ++ [y]) W .normal { tmps := #[], defers := [] } (W.setCell ⟨w.heap.size + 1, 0, none⟩ (.int .i64 u)) := fun u hu => by
      have k2 := keep_set W (w.heap.size + 1) 0 (.int .i64 u)
      refine ⟨k2.from (fun y hy => .inl (by simp at hy; omega)), kpu_of k2 (fun z hz => ⟨by simp at hz; omega, ?_⟩) (by omega), by rw [hu]; exact HB.out.set_ 0 _, HKK.out.trans k2 (by simp)⟩
      obtain rfl : z = w.heap.size + 1 := by simpa using hz
      exact ⟨_, _, _, HB.out, by decide⟩
    have hfin0 : loadL (pre ++ [y]) = q → ownPostT w4.heap.size (KpU UsK w.heap.size (w4.heap.size + 2)) (fun pre W' => Blk W' (w.heap.size + 1) 3 #[.int .i64 (loadL pre)] ∧ Keep [w.heap.size + 1] w4 W') (fun _ _ _ => False) (pre ++ [y]) W .normal { tmps := #[], defers := [] } W := fun hu => by
      exact ⟨KeepsFrom.refl _ _, KpU.refl _, by rw [hu]; exact HB.out, HKK.out⟩
    have HFin := Lib.hid hfin
    have HFin0 := Lib.hid hfin0
    clear hfin hfin0 HB HKK
    cases hu : upM m yp with
    | none =>
      rw [hu] at HU HSN
      have HSN2 : Hid (loadL (pre ++ [y]) = q) := HSN.out
      clear hu hUL HSN
      rcases hcc with ⟨h1, rfl⟩ | ⟨h1, h2, rfl⟩ | ⟨h1, rfl⟩
      all_goals
        gi_wp2_with (refine ⟨trivial, ?_⟩; gi_at_call 32; refine (callsIn_wide.2 HU.out).mono ?_; rintro e w' ⟨rfl, rfl⟩; rw [numRes_none])
        exact HFin0.out HSN2.out
    | some k =>
      have hul := hUL k hu
      rw [hu] at HU HSN
      have HSN2 : Hid (loadL (pre ++ [y]) = q + k) := HSN.out
      clear hu hUL HSN
      rcases hcc with ⟨h1, rfl⟩ | ⟨h1, h2, rfl⟩ | ⟨h1, rfl⟩
      all_goals
        gi_wp2_with (refine ⟨trivial, ?_⟩; gi_at_call 32; refine (callsIn_wide.2 HU.out).mono ?_; rintro e w' ⟨rfl, rfl⟩; rw [numRes_some])
        exact HFin.out _ HSN2.out
  case stop => exact fun _ _ _ _ _ _ h _ => h.elim
  case done =>
    rintro D Wd hD ⟨hb, hK⟩ hD2
    have hcv := hb.cell 0
    simp at hcv
    gi_wp2
    refine ⟨by simp, .inl ⟨_, _, rfl, run_takeDeferred hD2, ?_⟩⟩
    refine ⟨_, by simp [results, Tryd.results9, go_sem]; rfl, rfl, ?_⟩
    exact (K4.trans hK (fun y hy hlt => by simp at hy; omega)).trans (keep_putObj _ D _) (fun y hy hlt => by simp at hy; have := hz4.out; have := K4.size; omega)
end Go.Proofs.YteocldlglklnjaaDoor
