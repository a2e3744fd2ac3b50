/- codec.Encode: the words of an image that may be, or why there are none. Condition: the table of math/bits lies where the program's text lays it. -/
import Derived.Test.YtfgjcjpemlgnmaaDoorCwWords
import Derived.Test.YtfgjcjpemlgnmaaDoorCwRight
namespace Go.Proofs.YtfgjcjpemlgnmaaDoor
open Go.RowKit
attribute [local go_sem] Oper.semAt_some

theorem slice_u32w : SliceOf Tryd.prog 28 44 1 4 := ⟨Tryd.underlying28, by kernel_rfl, by decide⟩
theorem own_ne {w : World} {base : Nat} {e : TypeId} {size n : Nat} {v : Value} {xs : List Value} {r t : Nat} {cs : Array Value} {fr : Nat × Nat} (h : w.ownsRow base e size v n xs) (hr : w.heap[r]? = some (.cells cs t fr)) (hne : e ≠ t) : v.ownBlock ≠ some r := by
  rcases h.2 with ⟨rfl, _⟩ | ⟨g', cap, cur, rfl, _, hh, _⟩
  · simp [Value.ownBlock]
  · intro he
    simp [Value.ownBlock] at he
    subst he
    rw [hh] at hr
    cases hr
    exact hne rfl
theorem own_typed {w : World} {base : Nat} {e : TypeId} {size n : Nat} {v : Value} {xs : List Value} (h : w.ownsRow base e size v n xs) : ∀ y, y ∈ v.ownBlock.toList → ∃ cs fr, w.heap[y]? = some (.cells cs e fr) := by
  intro y hy
  rcases h.2 with ⟨rfl, _⟩ | ⟨g', cap, cur, rfl, _, hh, _⟩
  · simp [Value.ownBlock] at hy
  · simp [Value.ownBlock] at hy
    subst hy
    exact ⟨_, _, hh⟩
/-- A box and a row of its own are left alone by an iterator of words. -/
theorem box_ownT {β : Type} {W2 : World} {g base : Nat} (hg : g < W2.heap.size) (f : β → List Value) :
    OwnT W2.heap.size (LoW W2.heap.size) (fun pre W' => ∃ v, Blk W' g 28 #[v] ∧ W'.ownsRow base 44 1 v (f pre).length (f pre) ∧ Keep [g] W2 W') := by
  rintro pre X Y row ⟨v, hb, ho, hk⟩ hgr hr
  have hge : ∀ r, row = some r → W2.heap.size ≤ r := fun r e => by
    obtain ⟨o, _, ⟨h1, _⟩ | ⟨_, h1, _⟩⟩ := hr r e <;> exact h1
  refine ⟨v, (hgr.block g hb.lt (fun e => by have := hge _ e.symm; omega)).trans hb, ?_, hk.trans (Keep.of_grown hgr) (fun x hx hlt => by have := hge x (by simpa using hx); omega)⟩
  refine own_keep ho (Keep.of_grown hgr) (fun gb hgb hx => ?_)
  obtain ⟨o, ho2, ⟨_, h2⟩ | ⟨_, _, cs, t, fr, rfl, ht⟩⟩ := hr gb (by simpa using hx)
  · obtain ⟨cs, t, fr, hh⟩ := own_cells ho gb (by simp [hgb])
    rw [ho2] at hh; cases hh; cases h2
  · exact own_ne ho ho2 (fun e => by subst e; revert ht; decide) hgb

theorem kpw_of {B0 B2 : Nat} {W W' : World} {F : List Nat} (k : Keep F W W') (hF : ∀ y, y ∈ F → B0 ≤ y ∧ ∃ cs t fr, W.heap[y]? = some (.cells cs t fr) ∧ t ∈ UsW) (hB : B0 ≤ W.heap.size) : KpW B0 B2 W W' := by
  refine ⟨⟨k.os, k.tape, k.output, k.size, fun x hx => k.block x (by omega) (fun hm => by have := (hF x hm).1; omega)⟩, ⟨k.size, fun g cs t fr hg ht => k.block g (Array.getElem?_eq_some_iff.1 hg).1 (fun hm => ?_)⟩, ⟨k.size, fun x o _ ho hc => (k.block x (Array.getElem?_eq_some_iff.1 ho).1 (fun hm => ?_)).trans ho⟩⟩
  · obtain ⟨_, cs', t', fr', h1, h2⟩ := hF g hm
    rw [hg] at h1
    cases h1
    exact ht h2
  · obtain ⟨_, cs', t', fr', h1, h2⟩ := hF x hm
    rw [ho] at h1
    cases h1
    cases hc
theorem kpw_put {B0 B2 : Nat} {W : World} {l : Nat} {o : Obj} (o' : Obj) (hl : B0 ≤ l) (h2 : l < B2) (ho : W.heap[l]? = some o) (hc : o.isCells = false) : KpW B0 B2 W (W.putObj l o') := by
  have k := keep_putObj W l o'
  refine ⟨⟨k.os, k.tape, k.output, k.size, fun x hx => World.putObj_heap_other (by omega)⟩, ⟨k.size, fun g cs t fr hg ht => World.putObj_heap_other (fun e => ?_)⟩, ⟨k.size, fun x o2 hx ho2 _ => (World.putObj_heap_other (by omega)).trans ho2⟩⟩
  subst e
  rw [hg] at ho
  cases ho
  cases hc
/-- The words of an image; none, if it may not be. -/
def encW (x : Img) : List Int := if (chkImg x).2 = 0 then wordsI x else []
def RetW (w : World) (l : List Int) (code : Int) (e : Ending) (w' : World) : Prop :=
  ∃ A c, e = .returned (.tuple #[.slice A l.length c, .int .i64 code]) ∧ w'.ownsRow w.heap.size 44 1 (.slice A l.length c) l.length (wordV l) ∧ Keep [] w w'

set_option maxRecDepth 100000 in
set_option maxHeartbeats 1000000 in
theorem encode_any (v : ImgV) (x : Img) (w : World) (h : ImgAt w v x) (hT : Tab w) : Calls Tryd.prog 7 #[.agg (imgCells v x).toArray] w (RetW w (encW x) (chkImg x).2) := by
  rw [← callsIn_wide (n := 9)]
  refine callsIn_of_wp_marks Tryd.func7 rfl trivial ?_ rfl
  simp only [Tryd.ntmps7, List.size_toArray, List.length_cons, List.length_nil, Nat.reduceAdd, Nat.reduceSub, Array.replicate_succ, Array.replicate_zero, List.push_toArray, List.append_toArray, List.nil_append, List.cons_append]
  obtain ⟨W1, hW1⟩ : ∃ W1, w.alloc (.cells (imgCells v x).toArray 26) = W1 := ⟨_, rfl⟩
  have hsz1 : W1.heap.size = w.heap.size + 1 := by rw [← hW1]; simp
  have c0 : Blk W1 w.heap.size 26 (imgCells v x).toArray := by rw [← hW1]; exact Blk.new _ _ _
  have K1 : Keep [] w W1 := by rw [← hW1]; exact (Keep.refl _ w).alloc _
  have HC := Lib.hid (check_any v x W1 (h.keep0 K1))
  have HCA := Lib.hid c0.cellsAt
  have HX := Lib.hid h
  have HT := Lib.hid hT
  have HW := Lib.hid hW1
  have HIL : Hid ((imgCells v x).length = 4) := show _ = _ from rfl
  have HRT : Hid ((chkImg x).2 = 0 → RightI x) := right_of
  have HEN : Hid (encW x = if (chkImg x).2 = 0 then wordsI x else []) := show _ = _ from rfl
  clear hW1 h hT
  generalize hcr : chkImg x = cr at *
  have HIm := fun (W2 : World) hw0 hfr B hB hb => Lib.hid (words1_seq 8 v x w W2 HX.out HT.out hw0 hfr B hB hb)
  generalize imgCells v x = il at *
  obtain ⟨cr1, cr2⟩ := cr
  by_cases hc : cr2 = 0
  · have HR := Lib.hid (HRT.out hc)
    have HE : Hid (encW x = wordsI x) := by show _ = _; rw [HEN.out, if_pos hc]
    subst hc
    gi_wp2_with (first
      | rw [HW.out]
      | (refine wpListIn_agg rfl 26 (.tmp 1) rfl rfl (cs := il) (by rw [HIL.out]; exact agg_image) HCA.out ?_)
      | (refine ⟨trivial, ?_⟩; gi_at_call 15; refine (callsIn_wide.2 HC.out).mono ?_; rintro e w2 ⟨rfl, k2⟩; rw [chkRes]; have HCB := Lib.hid ((c0.keep k2 (by simp)).alloc (.cells #[.slice none 0 0] 28)).cellsAt)
      | (refine wpListIn_agg rfl 26 (.tmp 1) rfl rfl (cs := il) (by rw [HIL.out]; exact agg_image) HCB.out ?_)
      | (refine ⟨trivial, ?_⟩; gi_at_call 16; refine (callsIn_wide.2 (words_any il _)).mono ?_; rintro e w3 ⟨rfl, rfl⟩))
    have b2 := c0.keep k2 (by simp)
    have K2 : Keep [] w w2 := K1.then k2
    obtain ⟨W0, hW0⟩ : ∃ W0, (w2.alloc (.cells #[.slice none 0 0] 28)).alloc (.cells il.toArray 26) = W0 := ⟨_, rfl⟩
    have hsz : W0.heap.size = w2.heap.size + 2 := by rw [← hW0]; simp
    have d0 : Blk W0 w2.heap.size 28 #[.slice none 0 0] := by rw [← hW0]; exact (Blk.new _ _ _).alloc _
    have d1 : Blk W0 (w2.heap.size + 1) 26 il.toArray := by
      rw [← hW0]; have := Blk.new (w2.alloc (.cells #[.slice none 0 0] 28)) 26 il.toArray; rwa [World.size_alloc] at this
    have K0 : Keep [] w W0 := by rw [← hW0]; exact (K2.alloc _).alloc _
    have hz2 := K2.size
    simp only [hW0]
    have hss := (HIm W0 K0.below (fun i hi => HR.out.fresh_lt HX.out.ok _) (w2.heap.size + 1) (by omega) d1).out
    have HL := Lib.hid (HR.out.words_len HX.out.ok)
    clear hW0 HIm HC HCA HW b2 K2
    refine wpIn_rangeT (F := Fence.wide) (n := 9) (Lo := LoW W0.heap.size) (ps := #[18]) rfl (by omega) (gf := 36) (lb := #[.pointer (some ⟨w2.heap.size + 1, 0, none⟩)]) rfl trivial (enters_of Tryd.func36 (by kernel_rfl) rfl)
      hss KpW.trans (fun W o o' h1 h2 => kpw_put o' (by omega) (by omega) h1 h2) (Below.refl _ _) (fun _ => rfl)
      (fun pre W' => ∃ V, Blk W' w2.heap.size 28 #[V] ∧ W'.ownsRow W0.heap.size 44 1 V (wordV pre).length (wordV pre) ∧ Keep [w2.heap.size] W0 W')
      (fun _ _ _ => False)
      (box_ownT (by omega) wordV) (fun _ _ _ _ _ hs _ _ => hs) ⟨_, d0, World.ownsRow_nil _ _ _ _, Keep.refl _ _⟩
      (fun y => { tmps := #[.agg il.toArray, .pointer (some ⟨w.heap.size, 0, none⟩), .slice none 0 0, .int .i64 0, .int .i64 cr1, .int .i64 0, .pointer (some ⟨w2.heap.size, 0, none⟩), .int .i64 y,
        .tuple #[.int .i64 cr1, .int .i64 0], .agg il.toArray, .tuple #[.int .i64 cr1, .int .i64 0], .int .i64 cr1, .int .i64 0, .int .i64 0, .bool false, undef, .agg il.toArray,
        .func (.func 36) #[] #[.pointer (some ⟨w2.heap.size + 1, 0, none⟩)], .int .i64 y, undef, undef, undef, undef, undef, undef], defers := [] }) ?assign ?body ?done ?stop
    case assign =>
      intro l y W K hK
      simp only [encZ]
      gi_wp2
      exact hK
    case body =>
      rintro l0 pre y W ⟨V, hv, hrow, hK⟩ hpre
      have hc := hv.cell 0
      simp at hc
      obtain ⟨A, c, rfl⟩ := own_shape hrow
      have hne := own_blk_ne hrow hv (by decide)
      have hB : W0.heap.size ≤ W.heap.size := hK.size
      have hlen := hpre.length_le
      have hl2 := HL.out
      rw [wordV_len] at *
      simp only [List.length_append, List.length_cons, List.length_nil] at hlen
      gi_wp2_with (gi_at_builtin; refine wpListIn_append_one rfl (.tmp 19) (.tmp 22) 28 rfl slice_u32w hrow rfl rfl (us := [u32v y]) rfl (by simp [u32v, Value.oneCell']) hB (by omega) (by unfold maxLen; omega) ?_; intro v' w1 hown1 hk1 hat1; obtain ⟨A', c', rfl⟩ := own_shape hown1; have hv1 := hv.keep hk1 (by simpa using hne); have hc1 := hv1.cell 0; have hf1 := hv1.frozen 0; simp at hc1)
      obtain ⟨n1, n2, n3⟩ := boxed_append hrow hv (by decide) hk1 hown1
      have hlt' := fun x hx => (hrow.lt x (by simpa using hx)).1
      refine ⟨n3.from (fun z hz => ?_), kpw_of n3 (fun z hz => ?_) (by omega), _, n1, ?_, ?_⟩
      · rcases List.mem_cons.1 hz with rfl | hz
        · exact .inl (by omega)
        · exact .inr (own_cells hrow z hz)
      · rcases List.mem_cons.1 hz with rfl | hz
        · exact ⟨hz2, _, _, _, hv, by decide⟩
        · obtain ⟨cs, fr, h1⟩ := own_typed hrow z hz
          exact ⟨by have := hlt' z (by simpa using hz); omega, cs, _, fr, h1, by decide⟩
      · rw [wordV_append, List.length_append, wordV_len]
        exact n2
      · refine hK.trans n3 (fun z hz hzs => ?_)
        rcases List.mem_cons.1 hz with h | h
        · simp [h]
        · have := hlt' z (by simpa using h); omega
    case done =>
      rintro D Wd hD ⟨V, hv, hrow, hK⟩ hD2
      have hc := hv.cell 0
      simp at hc
      obtain ⟨A, c, rfl⟩ := own_shape hrow
      gi_wp2
      refine ⟨by simp, .inl ⟨_, _, rfl, run_takeDeferred hD2, ?_⟩⟩
      refine ⟨.tuple #[.slice A (wordV (wordsI x)).length c, .int .i64 0], by simp [results, Tryd.results7, go_sem], A, c, ?_, ?_, ?_⟩
      · rw [HE.out, wordV_len]
      · rw [HE.out]
        rw [wordV_len] at hrow
        exact own_putObj (.deferred none) (own_base hrow (by omega)) hD2 rfl
      · exact (K0.trans hK (by intro y hy hlt; simp at hy; omega)).trans (keep_putObj Wd D (.deferred none)) (fun y hy hlt => by simp at hy; omega)
    case stop => exact fun _ _ _ _ _ _ h _ => h.elim
  · have hcn : (cr2 != 0) = true := by simpa using hc
    have HE : Hid (encW x = []) := by show _ = _; rw [HEN.out, if_neg hc]
    gi_wp2_with (first
      | rw [HW.out]
      | (refine wpListIn_agg rfl 26 (.tmp 1) rfl rfl (cs := il) (by rw [HIL.out]; exact agg_image) HCA.out ?_)
      | (refine ⟨trivial, ?_⟩; gi_at_call 15; refine (callsIn_wide.2 HC.out).mono ?_; rintro e w2 ⟨rfl, k2⟩; rw [chkRes]))
    refine ⟨.tuple #[.slice none 0 0, .int .i64 cr2], by simp [results, Tryd.results7, go_sem], none, 0, ?_, ?_, K1.then k2⟩
    · rw [HE.out]; rfl
    · rw [HE.out]; exact World.ownsRow_nil _ _ _ _
end Go.Proofs.YtfgjcjpemlgnmaaDoor
