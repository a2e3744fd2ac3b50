/- What an edge of an image that may be is like; offsets that are no less. No program in sight. No condition. How long the change along an edge takes, by its protocol (window's Longest, Edge). Condition: the table of math/bits lies where the program's text lays it; an image that may be. Is an image admitted, and what is known of it (cert.Admit): the plain model, and what the loops keep. No condition. Is an image admitted, and what is known of it (cert.Admit). Condition: the table of math/bits lies where the program's text lays it. -/
import Derived.Test.YteflgdnekflbbaaDoorWinPlain
import Derived.Test.YteflgdnekflbbaaDoorWinF
import Derived.Test.YteflgdnekflbbaaDoorRef19P
import Derived.Test.YteflgdnekflbbaaDoorSmall
import Derived.Test.YteflgdnekflbbaaDoorRangeB
import Derived.Test.YteflgdnekflbbaaDoorMaskAll
import Derived.Test.YteflgdnekflbbaaDoorCwRight
import Derived.Test.YteflgdnekflbbaaDoorCertC
namespace Go.Proofs.YteflgdnekflbbaaDoor
open Go.RowKit

theorem setOf10_get {x : Img} {a : Nat} (h : a < x.modes.length) : setOf10 x (a : Int) = x.modes[a].set := by
  unfold setOf10
  rw [if_pos (by omega), Int.toNat_natCast, List.getD_eq_getElem?_getD, List.getElem?_eq_getElem h]; rfl
theorem edge_w {x : Img} (hr : (chkImg x).2 = 0) (ho : x.Ok) (k : Nat) (hk : k < x.edges.length) : ∃ f t, EdgeIn x k f t ∧ f < 4294967296 ∧ t < 4294967296 ∧ clsE x k = clsOf f t ∧ tabE x k = ceilOf x.tasks (f ||| t) ∧ InW x.tasks.length (f ||| t) ∧ InW x.tasks.length t := by
  have hR := right_of hr
  obtain ⟨⟨a0, a1⟩, ⟨b0, b1⟩, _⟩ := hR.edgeIn k hk
  obtain ⟨a, ha⟩ : ∃ a : Nat, x.edges[k].frm = (a : Int) := ⟨x.edges[k].frm.toNat, by omega⟩
  obtain ⟨b, hb⟩ : ∃ b : Nat, x.edges[k].to = (b : Int) := ⟨x.edges[k].to.toNat, by omega⟩
  have ha1 : a < x.modes.length := by omega
  have hb1 : b < x.modes.length := by omega
  have sf := setOf10_get ha1
  have st := setOf10_get hb1
  have hf : x.modes[a].set < 4294967296 := ho.set _ (List.getElem_mem _)
  have ht : x.modes[b].set < 4294967296 := ho.set _ (List.getElem_mem _)
  have hc : clsE x k = clsOf x.modes[a].set x.modes[b].set := by
    unfold clsE
    rw [List.getElem?_eq_getElem hk]
    show clsOf (setOf10 x x.edges[k].frm) (setOf10 x x.edges[k].to) = _
    rw [ha, hb, sf, st]
  have i1 : InW x.tasks.length x.modes[a].set := fun i hi => by
    cases e : x.modes[a].set.testBit i with
    | false => rfl
    | true => rw [← sf] at e; have := hR.set_lt (a : Int) i e; omega
  have i2 : InW x.tasks.length x.modes[b].set := fun i hi => by
    cases e : x.modes[b].set.testBit i with
    | false => rfl
    | true => rw [← st] at e; have := hR.set_lt (b : Int) i e; omega
  refine ⟨_, _, ⟨hk, a, b, ha1, hb1, ha, hb, rfl, rfl⟩, hf, ht, hc, ?_, fun i hi => ?_, i2⟩
  · unfold tabE
    rw [hc, clsOf_both hf ht]
  · rw [Nat.testBit_or, i1 i hi, i2 i hi]; rfl
/-- The first k offsets are the greater ones of two rows, the others the second's. -/
def mixL (L M : List Int) (k : Nat) : List Int := (List.range 16).map (fun j => if j < k then max (L.getD j 0) (M.getD j 0) else M.getD j 0)
theorem mixL_len (L M : List Int) (k : Nat) : (mixL L M k).length = 16 := by simp [mixL]
theorem mixL_get (L M : List Int) (k j : Nat) (hj : j < 16) : (mixL L M k)[j]? = some (if j < k then max (L.getD j 0) (M.getD j 0) else M.getD j 0) := by
  unfold mixL
  rw [List.getElem?_map, List.getElem?_range hj]; rfl
theorem mixL_zero {L M : List Int} (h : M.length = 16) : mixL L M 0 = M := by
  apply List.ext_getElem?
  intro j
  rcases Nat.lt_or_ge j 16 with hj | hj
  · rw [mixL_get _ _ _ _ hj, if_neg (by omega), List.getD_eq_getElem?_getD, List.getElem?_eq_getElem (by omega)]; rfl
  · rw [List.getElem?_eq_none (by rw [mixL_len]; omega), List.getElem?_eq_none (by omega)]
theorem mixL_set (L M : List Int) (k : Nat) : mixL L M (k + 1) = (mixL L M k).set k (max (L.getD k 0) (M.getD k 0)) := by
  apply List.ext_getElem?
  intro j
  rw [List.getElem?_set, mixL_len]
  rcases Nat.lt_or_ge j 16 with hj | hj
  · rw [mixL_get _ _ _ _ hj, mixL_get _ _ _ _ hj]
    by_cases e : k = j
    · subst e; simp [hj]
    · rw [if_neg e]
      by_cases h : j < k
      · rw [if_pos h, if_pos (by omega)]
      · rw [if_neg h, if_neg (by omega)]
  · rw [List.getElem?_eq_none (by rw [mixL_len]; omega), List.getElem?_eq_none (by rw [mixL_len]; omega)]
    split
    · rw [if_neg (by omega)]
    · rfl
theorem mixL_same {L M : List Int} {k : Nat} (hk : k < 16) (h : L.getD k 0 ≤ M.getD k 0) : mixL L M (k + 1) = mixL L M k := by
  rw [mixL_set, show max (L.getD k 0) (M.getD k 0) = M.getD k 0 by omega]
  apply List.ext_getElem?
  intro j
  rw [List.getElem?_set, mixL_len]
  split
  · rename_i e
    subst e
    rw [mixL_get _ _ _ _ hk, if_neg (by omega)]
  · rfl
theorem mixL_ok {L M : List Int} (hL : OffOk L) (hM : OffOk M) (k : Nat) : OffOk (mixL L M k) := by
  refine ⟨mixL_len L M k, fun z hz => ?_⟩
  obtain ⟨j, _, rfl⟩ := List.mem_map.1 hz
  have a := hL.get j
  have b := hM.get j
  split <;> omega
theorem mixL_le {L M : List Int} (hL : OffOk L) : LeOff L (mixL L M 16) := fun k => by
  rcases Nat.lt_or_ge k 16 with hk | hk
  · rw [List.getD_eq_getElem?_getD (l := mixL L M 16), mixL_get _ _ _ _ hk, if_pos hk, Option.getD_some]
    omega
  · rw [List.getD_eq_getElem?_getD (l := mixL L M 16), List.getElem?_eq_none (by rw [mixL_len]; omega), List.getD_eq_getElem?_getD (l := L), List.getElem?_eq_none (by rw [hL.1]; omega)]
    exact Int.le_refl _
theorem iv_set (l : List Int) (k : Nat) (z : Int) : (iv l).toArray.setIfInBounds k (.int .i64 z) = (iv (l.set k z)).toArray := by
  unfold iv
  rw [List.setIfInBounds_toArray, List.map_set]
def z8 : List Int := [0, 0, 0, 0, 0, 0, 0, 0]
def z16 : List Int := [0, 0, 0, 0, 0, 0, 0, 0, 0, 0, 0, 0, 0, 0, 0, 0]
theorem z16_ok : OffOk z16 := ⟨rfl, by simp [z16]⟩
/-- An edge of an image that may be. -/
structure EdW (x : Img) (k : Nat) : Prop where
  small : Small x
  lt : k < x.edges.length
  ok : x.Ok
  both : InW x.tasks.length (clsE x k).both
  to_ : InW x.tasks.length (clsE x k).to
theorem edW_of {x : Img} (hx0 : (chkImg x).2 = 0) (ho : x.Ok) {k : Nat} (hk : k < x.edges.length) : EdW x k := by
  obtain ⟨f, t, _, hf, ht, hc, _, h1, h2⟩ := edge_w hx0 ho k hk
  exact ⟨small_of hx0, hk, ho, by rw [hc, clsOf_both hf ht]; exact h1, by rw [hc, clsOf_to hf ht]; exact h2⟩
end Go.Proofs.YteflgdnekflbbaaDoor

namespace Go.Proofs.YteflgdnekflbbaaDoor
open Go.RowKit
attribute [local go_sem] Oper.semAt_some

def Cls.from_ (c : Cls) : Nat := c.old ||| c.same
theorem Cls.Ok.from_ {c : Cls} (h : c.Ok) : c.from_ < 4294967296 := Nat.or_lt_two_pow (n := 32) h.old h.same
set_option maxRecDepth 100000 in
theorem cfrom_any (c : Cls) (w : World) (h : c.Ok) : Calls Tryd.prog 44 #[.agg (clsCells c).toArray] w fun e w' => e = .returned (.int .u32 (c.from_ : Int)) ∧ Keep [] w w' := by
  have K0 := (Keep.refl [] w).alloc (.cells (clsCells c).toArray 114)
  have hb := Blk.new w 114 (clsCells c).toArray
  have h1 := u32_or_nat c.old c.same h.old h.same
  have HB : Hid (bits .or .u32 (c.old : Int) (c.same : Int) = (c.from_ : Int)) := by show _ = _; rw [h1]; rfl
  have c1 : (w.alloc (.cells (clsCells c).toArray 114)).cell? ⟨w.heap.size, 0, none⟩ = some (.int .u32 (c.old : Int)) := by rw [hb.cell]; rfl
  have c2 : (w.alloc (.cells (clsCells c).toArray 114)).cell? ⟨w.heap.size, 2, none⟩ = some (.int .u32 (c.same : Int)) := by rw [hb.cell]; rfl
  clear hb h1
  generalize (clsCells c).toArray = cs at *
  go_enter Tryd.func44, Tryd.ntmps44
  go_wp2
  go_ret
  exact ⟨congrArg (fun n => Ending.returned (.int .u32 n)) HB.out, K0⟩

/-- The greatest period of a row of tasks. -/
def longStep (x : Img) (n : Int) (i : Nat) : Int := match x.tasks[i]? with | some t => max n t.per | none => n
def longW (x : Img) (is : List Nat) : Int := is.foldl (longStep x) 0
theorem longW_snoc (x : Img) (is : List Nat) (i : Nat) : longW x (is ++ [i]) = longStep x (longW x is) i := by
  unfold longW
  rw [List.foldl_append]; rfl
set_option maxRecDepth 100000 in
set_option maxHeartbeats 2000000 in
theorem longest_any (v : ImgV) (x : Img) (s : Nat) (w : World) (hTb : Tab w) (h : ImgAt w v x) (hs : s < 4294967296) :
    Calls Tryd.prog 45 #[.agg (imgCells v x).toArray, .int .u32 (s : Int)] w fun e w' => e = .returned (.int .i64 (longW x (bitsL s))) ∧ Keep [] w w' := by
  have hl := h.lt
  unfold maxLen at hl
  rw [← callsIn_wide (n := 9)]
  refine callsIn_of_wp_marks Tryd.func45 rfl trivial ?_ rfl
  simp only [Tryd.ntmps45, List.size_toArray, List.length_cons, List.length_nil, Nat.reduceAdd, Nat.reduceSub, Array.replicate_succ, Array.replicate_zero, List.push_toArray, List.append_toArray, List.nil_append, List.cons_append]
  obtain ⟨W1, hW1⟩ : ∃ W1, (w.alloc (.cells (imgCells v x).toArray 26)).alloc (.cells #[.int .i64 0] 3) = W1 := ⟨_, rfl⟩
  have b0 : Blk W1 w.heap.size 26 (imgCells v x).toArray := by rw [← hW1]; exact (img_box w v x).alloc _
  have b1 : Blk W1 (w.heap.size + 1) 3 #[.int .i64 0] := by rw [← hW1]; exact Blk.new1 _ _ _ _
  have K1 : Keep [] w W1 := by rw [← hW1]; exact ((Keep.refl [] w).alloc _).alloc _
  have hz1 : W1.heap.size = w.heap.size + 2 := by rw [← hW1]; simp
  have c1 := b1.cell 0
  have f1 := b1.frozen 0
  simp at c1
  have b2 := b1.set_ 0 (.int .i64 0)
  have K2 : Keep [] w (W1.setCell ⟨w.heap.size + 1, 0, none⟩ (.int .i64 0)) := K1.trans (keep_set _ _ _ _) (fun y hy hlt => by simp at hy; omega)
  have b02 := b0.keep (keep_set W1 (w.heap.size + 1) 0 (.int .i64 0)) (by simp)
  obtain ⟨W2, hW2⟩ : ∃ W2, W1.setCell ⟨w.heap.size + 1, 0, none⟩ (.int .i64 0) = W2 := ⟨_, rfl⟩
  have hz2 : W2.heap.size = w.heap.size + 2 := by rw [← hW2]; simpa using hz1
  rw [hW2] at b2 K2 b02
  have b2 : Blk W2 (w.heap.size + 1) 3 #[.int .i64 0] := b2
  have HW := Lib.hid hW1
  have HWW := Lib.hid hW2
  have HI := Lib.hid h
  have hT2 := hTb.keep0 K2
  have hT0 := hTb.1
  have HL := Lib.hid hl
  clear hW1 hW2 b0 b1 K1 h hTb hl
  have hil1 : (imgCells v x)[1]? = some (.slice v.ta x.tasks.length v.tc) := rfl
  have HI1 := Lib.hid hil1
  have HZ2 := Lib.hid hz2
  clear hil1 hz2 hz1
  generalize imgCells v x = il at *
  gi_wp2_with (first
    | rw [HW.out]
    | rw [HWW.out]
    | (refine ⟨trivial, ?_⟩; gi_at_call 40; refine (callsIn_wide.2 (maskAll_any s _)).mono ?_; rintro e w6 ⟨rfl, hw6⟩))
  have k26 : Keep [] W2 w6 := by rw [← hw6]; exact (Keep.refl _ W2).alloc _
  have d6 : Blk w6 W2.heap.size 36 #[.int .u32 (s : Int)] := by rw [← hw6]; exact Blk.new _ _ _
  have hz6 : w6.heap.size = W2.heap.size + 1 := by rw [← hw6]; simp
  have hss := maskAll1_seq 8 s W2.heap.size w6 (by omega) d6 hs (hT2.keep0 k26)
  have K6 := K2.then k26
  replace b2 := b2.keep0 k26
  replace b02 := b02.keep0 k26
  clear hw6 HW HWW k26 hT2 c1 f1
  refine wpIn_rangeT (F := Fence.wide) (n := 9) (Lo := fun _ _ => False) (ps := #[9]) rfl (by omega) (gf := 56) (lb := #[.pointer (some ⟨W2.heap.size, 0, none⟩)]) rfl trivial (enters_of Tryd.func56 (by kernel_rfl) rfl)
    (hss.toT _) Same.trans (fun W _ o' _ _ => same_putO (by have hz2 := HZ2.out; simp; omega) o') (Below.refl _ _) (fun _ => rfl)
    (fun pre W' => Blk W' (w.heap.size + 1) 3 #[.int .i64 (longW x pre)] ∧ Keep [w.heap.size + 1] w6 W')
    (fun _ _ _ => False)
    ?hI (fun _ _ _ _ _ hs _ _ => hs) ⟨b2, Keep.refl _ _⟩
    (fun i => { tmps := #[.agg il.toArray, .int .u32 (s : Int), .pointer (some ⟨w.heap.size, 0, none⟩), undef, .int .i64 0, .pointer (some ⟨w.heap.size + 1, 0, none⟩), .int .i64 (i : Int), .int .u32 (s : Int), .func (.func 56) #[] #[.pointer (some ⟨W2.heap.size, 0, none⟩)], .int .i64 (i : Int),
      undef, undef, undef, undef, undef, undef, undef, undef, undef, undef, undef, undef, undef, undef], defers := [] }) ?assign ?body ?done ?stop
  case hI => exact OwnFrom.toT (OwnFrom.and (blk_own _ _ _) (keep_own (Nat.le_refl _)))
  case assign =>
    intro l i W' K hK
    simp only [encN]
    gi_wp2
    exact hK
  case body =>
    rintro l pre i Wb ⟨hb, hK⟩ hpre
    have hKz := hK.size
    have KWb : Keep [] w Wb := K6.trans hK (fun y hy hlt => by simp at hy; omega)
    have e0 := b02.keep hK (by simp)
    have c1 : Wb.cell? ⟨w.heap.size, 1, none⟩ = some (.slice v.ta x.tasks.length v.tc) := e0.at_ HI1.out
    have hsn := longW_snoc x pre i
    have hb0 := hb.cell 0
    have hf0 := hb.frozen 0
    simp at hb0
    have hl := HL.out
    by_cases hi : i < x.tasks.length
    · obtain ⟨b, o, hA, hbw, hcs⟩ := HI.out.task (by omega)
      have hp := ((hcs i hi).keep0 KWb hbw) 0 (.int .i64 x.tasks[i].per) rfl
      rw [Nat.add_zero] at hp
      rw [hA] at c1
      have hst : longStep x (longW x pre) i = max (longW x pre) x.tasks[i].per := by unfold longStep; rw [List.getElem?_eq_getElem hi]
      rw [hst] at hsn
      have p0 : (0 : Int) ≤ (i : Int) := by omega
      have p1 : (i : Int) < (x.tasks.length : Int) := by omega
      have p2 : decide ((i : Int) < (x.tasks.length : Int)) = true := decide_eq_true p1
      have p3 : decide (i < x.tasks.length) = true := decide_eq_true hi
      have HB := Lib.hid hb
      have HSN := Lib.hid hsn
      clear hcs hst hb hsn
      generalize longW x pre = z0 at *
      generalize x.tasks[i].per = z1 at *
      have hF : ∀ w', Keep [] Wb w' → w'.cell? ⟨w.heap.size + 1, 0, none⟩ = some (.int .i64 z0) ∧ w'.cell? ⟨w.heap.size, 1, none⟩ = some (.slice (some ⟨b, o, none⟩) x.tasks.length v.tc) ∧ w'.cell? ⟨b, o + i * 11, none⟩ = some (.int .i64 z1) := fun w' hw =>
        ⟨(hw.cell (p := ⟨w.heap.size + 1, 0, none⟩) HB.out.lt (by simp)).trans hb0, (hw.cell (p := ⟨w.heap.size, 1, none⟩) (World.block_lt_of_cell? _ _ c1) (by simp)).trans c1, (hw.cell (p := ⟨b, o + i * 11, none⟩) (World.block_lt_of_cell? _ _ hp) (by simp)).trans hp⟩
      gi_wp2
      refine ap_start 8 (Keep [] Wb) (open_round _) rfl rfl (Keep.refl _ _).drew (fun hS hPan => ?_) (fun _ _ _ _ _ h => h)
      (refine ap_val (v := ?_) 0 rfl (by kernel_rfl) (by kernel_rfl) (by kernel_rfl) (by kernel_rfl) (by rfl) hPan ?_ hS ?_; rotate_left; (intro w' hSw; obtain ⟨g1,g2,g3⟩ := hF w' hSw; go_simp; try with_reducible rfl); simp only [Act.put, List.setIfInBounds_toArray, List.set_cons_zero, List.set_cons_succ])
      (refine ap_val (v := ?_) 1 rfl (by kernel_rfl) (by kernel_rfl) (by kernel_rfl) (by kernel_rfl) (by rfl) hPan ?_ hS ?_; rotate_left; (intro w' hSw; obtain ⟨g1,g2,g3⟩ := hF w' hSw; go_simp; try with_reducible rfl); simp only [Act.put, List.setIfInBounds_toArray, List.set_cons_zero, List.set_cons_succ])
      (refine ap_val (v := ?_) 2 rfl (by kernel_rfl) (by kernel_rfl) (by kernel_rfl) (by kernel_rfl) (by rfl) hPan ?_ hS ?_; rotate_left; (intro w' hSw; obtain ⟨g1,g2,g3⟩ := hF w' hSw; go_simp; try with_reducible rfl); simp only [Act.put, List.setIfInBounds_toArray, List.set_cons_zero, List.set_cons_succ])
      (refine ap_val (v := ?_) 3 rfl (by kernel_rfl) (by kernel_rfl) (by kernel_rfl) (by kernel_rfl) (by rfl) hPan ?_ hS ?_; rotate_left; (intro w' hSw; obtain ⟨g1,g2,g3⟩ := hF w' hSw; go_simp; try with_reducible rfl); simp only [Act.put, List.setIfInBounds_toArray, List.set_cons_zero, List.set_cons_succ])
      (refine ap_val (v := ?_) 4 rfl (by kernel_rfl) (by kernel_rfl) (by kernel_rfl) (by kernel_rfl) (by rfl) hPan ?_ hS ?_; rotate_left; (intro w' hSw; obtain ⟨g1,g2,g3⟩ := hF w' hSw; go_simp; try with_reducible rfl); simp only [Act.put, List.setIfInBounds_toArray, List.set_cons_zero, List.set_cons_succ])
      (refine ap_val (v := ?_) 5 rfl (by kernel_rfl) (by kernel_rfl) (by kernel_rfl) (by kernel_rfl) (by rfl) hPan ?_ hS ?_; rotate_left; (intro w' hSw; obtain ⟨g1,g2,g3⟩ := hF w' hSw; go_simp; try with_reducible rfl); simp only [Act.put, List.setIfInBounds_toArray, List.set_cons_zero, List.set_cons_succ])
      (refine ap_val (v := ?_) 6 rfl (by kernel_rfl) (by kernel_rfl) (by kernel_rfl) (by kernel_rfl) (by rfl) hPan ?_ hS ?_; rotate_left; (intro w' hSw; obtain ⟨g1,g2,g3⟩ := hF w' hSw; go_simp; try with_reducible rfl); simp only [Act.put, List.setIfInBounds_toArray, List.set_cons_zero, List.set_cons_succ])
      refine ap_val (v := .int .i64 (max z0 z1)) 7 rfl (by kernel_rfl) (by kernel_rfl) (by kernel_rfl) (by kernel_rfl) (by rfl) hPan (fun w' _ => run_max rfl rfl) hS ?_
      (simp only [Act.put, List.setIfInBounds_toArray, List.set_cons_zero, List.set_cons_succ])
      refine ap_one 8 (by kernel_rfl) ?_
      refine op_store1 (v := .int .i64 (max z0 z1)) 8 rfl (by rfl) rfl rfl rfl (by kernel_rfl) rfl rfl hb0 hf0 ?_
      refine ⟨fun h => (by cases h), ap_done (by kernel_rfl) ?_ _⟩
      rw [noOut_normal]
      (simp only [Act.put])
      gi_wp2
      have hz2 := HZ2.out
      have k1 := (Keep.refl [w.heap.size + 1] Wb).drew
      have kA : Keep [w.heap.size + 1] Wb (Wb.drew.setCell ⟨w.heap.size + 1, 0, none⟩ (.int .i64 (max z0 z1))) := k1.setCell (by simp) _
      refine ⟨kA.from (fun y hy => .inl (by simp at hy; omega)), Same.keep kA (fun y hy => ⟨?_, ?_⟩), ?_, hK.trans kA (fun y hy _ => hy)⟩
      · simp only [List.mem_cons, List.not_mem_nil, or_false] at hy
        rcases hy with rfl | rfl <;> omega
      · simp only [List.mem_cons, List.not_mem_nil, or_false] at hy ⊢
        rcases hy with rfl | rfl <;> omega
      · rw [HSN.out]
        exact HB.out.drew.set_ 0 _
    · have hst : longStep x (longW x pre) i = longW x pre := by unfold longStep; rw [List.getElem?_eq_none (by omega)]
      rw [hst] at hsn
      have p2 : decide ((i : Int) < (x.tasks.length : Int)) = false := decide_eq_false (by omega)
      have p3 : decide (i < x.tasks.length) = false := decide_eq_false hi
      have HSN := Lib.hid hsn
      clear hst hsn
      gi_wp2
      exact ⟨KeepsFrom.refl _ _, Same.refl _ _, by rw [HSN.out]; exact hb, hK⟩
  case done =>
    rintro D Wd hD ⟨hb, hK⟩ hD2
    have hc := hb.cell 0
    simp at hc
    gi_wp2
    refine ⟨by simp, .inl ⟨_, _, rfl, run_takeDeferred hD2, ?_⟩⟩
    refine ⟨_, by simp [results, Tryd.results45, go_sem], rfl, ?_⟩
    have hz2 := HZ2.out
    exact (K6.trans hK (fun y hy hlt => by simp at hy; omega)).trans (keep_putObj _ D _) (fun y hy hlt => by simp at hy; omega)
  case stop => exact fun _ _ _ _ _ _ h _ => h.elim

/-- How long the change along an edge takes; is it known? -/
def edgeM (x : Img) (k : Nat) : (Int × Int) × Bool := match x.edges[k]? with
  | none => ((0, 0), false)
  | some e => if e.prot = 1 then (((busyM x (clsE x k).from_).getD 0, 0), (busyM x (clsE x k).from_).isSome)
    else if e.prot = 2 then ((longW x (bitsL (clsE x k).both), 0), true)
    else ((spanM x (clsE x k) (tabE x k) e.offs).getD (0, 0), (spanM x (clsE x k) (tabE x k) e.offs).isSome)
def edgeRes2 (r : (Int × Int) × Bool) : Value := .tuple #[.agg #[.int .i64 r.1.1, .int .i64 r.1.2], .bool r.2]
set_option maxRecDepth 100000 in
set_option maxHeartbeats 3000000 in
theorem wedge_any (v : ImgV) (x : Img) (k : Nat) (w : World) (hTb : Tab w) (h : ImgAt w v x) (hE : EdW x k) (hlt : k < x.edges.length) (hp : 1 ≤ x.edges[k].prot ∧ x.edges[k].prot ≤ 3) (hO : OffOk x.edges[k].offs) :
    Calls Tryd.prog 28 #[.agg (imgCells v x).toArray, .int .i64 (k : Int)] w fun e w' => e = .returned (edgeRes2 (edgeM x k)) ∧ Keep [] w w' := by
  have hl := h.le
  unfold maxLen at hl
  obtain ⟨W0, hW0⟩ : ∃ W0, (w.alloc (.cells (imgCells v x).toArray 26)).alloc (.cells #[.int .i64 0, .int .i64 0] 58) = W0 := ⟨_, rfl⟩
  have b0 : Blk W0 w.heap.size 26 (imgCells v x).toArray := by rw [← hW0]; exact (img_box w v x).alloc _
  have b1 : Blk W0 (w.heap.size + 1) 58 #[.int .i64 0, .int .i64 0] := by rw [← hW0]; exact Blk.new1 _ _ _ _
  have K0 : Keep [] w W0 := by rw [← hW0]; exact ((Keep.refl _ w).alloc _).alloc _
  have c3 : W0.cell? ⟨w.heap.size, 3, none⟩ = some (.slice v.ea x.edges.length v.ec) := by rw [b0.cell]; rfl
  obtain ⟨b, o, hA, hbw, hcs⟩ := h.edge (by omega)
  have hct := Lib.hid ((hcs k hlt).keep0 K0 hbw)
  rw [hA] at c3
  have HEL : Hid ((edgCells x.edges[k]).length = 23) := edgCells_len (h.ok.offs _ (List.getElem_mem hlt)) (h.ok.mp _ (List.getElem_mem hlt))
  have HEO : Hid (∀ u ∈ edgCells x.edges[k], u.oneCell' = true) := iv_one _
  have HG : Hid ((edgCells x.edges[k])[2]? = some (.int .i64 x.edges[k].prot)) := show _ = _ from rfl
  have HGO : Hid (∀ w' b, CellsAt w' b 0 (edgCells x.edges[k]) → CellsAt w' b 3 (iv x.edges[k].offs)) := fun w' b hc => cells_mid (A := iv [x.edges[k].frm, x.edges[k].to, x.edges[k].prot]) (C := iv x.edges[k].mp) hc (by unfold edgCells edgInts iv; simp) rfl
  have HOC : Hid ((iv x.edges[k].offs).length = 16) := by show _ = _; rw [iv_len]; exact hO.1
  have HIC : Hid ((imgCells v x).length = 4) := show _ = _ from rfl
  have hcok := clsE_ok x k h.ok
  have HCF : Hid (∀ w', Keep [] W0 w' → CellsAt w' w.heap.size 0 (imgCells v x)) := fun w' hk => (b0.keep0 hk).cellsAt
  have HEd := fun w' hk => Lib.hid (clsEdge_any v x k w' (h.keep0 (w' := w') hk) hlt)
  have HFr := fun w' => Lib.hid (cfrom_any (clsE x k) w' hcok)
  have HBo := fun w' => Lib.hid (both_any (clsE x k) w' hcok)
  have HBu := fun w' hk => Lib.hid (busy_any v x (clsE x k).from_ w' (hTb.keep0 hk) (h.keep0 hk) hcok.from_)
  have HLo := fun w' hk => Lib.hid (longest_any v x (clsE x k).both w' (hTb.keep0 hk) (h.keep0 hk) hcok.both)
  have HNe := fun w' hk => Lib.hid (new_in v x k x.edges[k].offs w' (hTb.keep0 (w' := w') hk) (h.keep0 hk) hlt hO.1)
  have HSp := fun w' hk => Lib.hid (span_any v x (clsE x k) (tabE x k) x.edges[k].offs w' (hTb.keep0 (w' := w') hk) (h.keep0 hk) hcok (tabE_len x k) hO hE.small hE.both hE.to_)
  have HSL : Hid ((shCells v x (clsE x k) (tabE x k) x.edges[k].offs).length = 31) := shCells_len v x _ (tabE_len x k) hO.1
  have hone : Hid (∀ u ∈ shCells v x (clsE x k) (tabE x k) x.edges[k].offs, u.oneCell' = true) := shCells_one _ _ _ _ _
  have HM : Hid (edgeM x k = if x.edges[k].prot = 1 then (((busyM x (clsE x k).from_).getD 0, 0), (busyM x (clsE x k).from_).isSome)
    else if x.edges[k].prot = 2 then ((longW x (bitsL (clsE x k).both), 0), true)
    else ((spanM x (clsE x k) (tabE x k) x.edges[k].offs).getD (0, 0), (spanM x (clsE x k) (tabE x k) x.edges[k].offs).isSome)) := by
    show _ = _
    unfold edgeM
    rw [List.getElem?_eq_getElem hlt]
  have q0 : decide ((k : Int) < 0) = false := decide_eq_false (by omega)
  have q1 : decide ((x.edges.length : Int) ≤ (k : Int)) = false := decide_eq_false (by omega)
  have q1n : decide (x.edges.length ≤ k) = false := decide_eq_false (by omega)
  have q2 : (0 : Int) ≤ (k : Int) := by omega
  have q3 : (k : Int) < (x.edges.length : Int) := by omega
  have HW := Lib.hid hW0
  have B1 := Lib.hid b1
  clear hW0 b0 b1 hcs h hTb hO hcok hE
  generalize busyM x (clsE x k).from_ = bm at *
  generalize longW x (bitsL (clsE x k).both) = lw at *
  generalize spanM x (clsE x k) (tabE x k) x.edges[k].offs = sp at *
  generalize shCells v x (clsE x k) (tabE x k) x.edges[k].offs = sc at *
  generalize hcl : (clsE x k) = ce at *
  have HCL3 : Hid ((clsCells ce).length = 3) := show _ = _ from rfl
  have honeC : Hid (∀ u ∈ clsCells ce, u.oneCell' = true) := by intro u hu; simp only [clsCells, List.mem_cons, List.not_mem_nil, or_false] at hu; rcases hu with rfl | rfl | rfl <;> rfl
  clear hcl
  generalize edgCells x.edges[k] = ec at *
  generalize x.edges[k].prot = pr at *
  generalize iv x.edges[k].offs = oc at *
  generalize imgCells v x = il at *
  generalize clsCells ce = cc at *
  generalize ce.from_ = fr at *
  generalize ce.both = bo at *
  have hpr : pr = 1 ∨ pr = 2 ∨ pr = 3 := by omega
  go_enter Tryd.func28, Tryd.ntmps28
  go_wp2_with (first
    | rw [HW.out]
    | (refine wpList_load_agg rfl 93 (.tmp 25) rfl rfl (cs := ec) (by rw [HEL.out]; exact agg_edge23) hct.out ?_)
    | refine stop_store 93 (.tmp 6) (.tmp 26) rfl ?_)
  constructor
  refine wpList_store_all rfl 93 (.tmp 6) (.tmp 26) rfl rfl rfl (vs := ec) (by rw [HEL.out]; exact agg_edge23.2) (Blk.new _ _ _) HEO.out ?_ ?_
  · rw [HEL.out]; rfl
  intro w2 d2 k2
  have K2 := Lib.hid (((Keep.refl [] W0).alloc _).trans k2 (fun y hy hlt => by simp at hy; omega) : Keep [] W0 w2)
  have D2 := Lib.hid d2
  have hcI2 := Lib.hid (HCF.out w2 K2.out)
  clear k2 d2 q0 q1 q1n c3
  go_wp2_with (refine wpList_load_agg rfl 26 (.tmp 2) rfl rfl (cs := il) (by rw [HIC.out]; exact agg_image) hcI2.out ?_)
  refine (HEd w2 (K0.then K2.out)).out.mono ?_
  rintro e w3 ⟨rfl, k3⟩
  go_wp2_with (refine stop_store 114 (.tmp 7) (.tmp 29) rfl ?_)
  constructor
  refine wpList_store_all rfl 114 (.tmp 7) (.tmp 29) rfl rfl rfl (vs := cc) (by rw [HCL3.out]; exact agg_cls.2) (Blk.new _ _ _) honeC.out ?_ ?_
  · rw [HCL3.out]; rfl
  intro w4 d4 k4
  have k34 : Keep [] w3 w4 := ((Keep.refl [] w3).alloc _).trans k4 (fun y hy hlt => by simp at hy; omega)
  have K4 := Lib.hid (K2.out.then (k3.then k34))
  have d24 := D2.out.keep0 (k3.then k34)
  have cpr := d24.at_ HG.out
  have HCO := Lib.hid (HGO.out w4 _ d24.cellsAt)
  have D4 := Lib.hid d4
  have HCI4 : ∀ w', Keep [] w4 w' → CellsAt w' w.heap.size 0 il := fun w' hk => HCF.out w' (K4.out.then hk)
  have HCC4 : ∀ w', Keep [] w4 w' → CellsAt w' w3.heap.size 0 cc := fun w' hk => (D4.out.keep0 hk).cellsAt
  have E1 := Lib.hid (B1.out.keep0 K4.out)
  have KW4 := Lib.hid (K0.then K4.out)
  clear k3 k34 k4 d4 hcI2 HEd D2 d24 hct
  rcases hpr with rfl | rfl | rfl
  · have HX : Hid (edgeRes2 (edgeM x k) = .tuple #[.agg #[.int .i64 (bm.getD 0), .int .i64 0], .bool bm.isSome]) := by show _ = _; rw [HM.out, if_pos rfl]; rfl
    go_wp2
    refine ap_begin 8 (Keep [] w4) rfl (Keep.refl _ _).drew (fun hS hPan => ?_) (fun _ _ d _ _ h => by cases d <;> exact h)
    refine ap_agg 0 26 (.tmp 2) il rfl (by kernel_rfl) (by kernel_rfl) (by kernel_rfl) (by kernel_rfl) (by rfl) hPan rfl rfl (by rw [HIC.out]; exact agg_image) HCI4 hS ?_
    (simp only [Act.put, List.setIfInBounds_toArray, List.set_cons_zero, List.set_cons_succ])
    refine ap_agg 1 114 (.tmp 7) cc rfl (by kernel_rfl) (by kernel_rfl) (by kernel_rfl) (by kernel_rfl) (by rfl) hPan rfl rfl (by rw [HCL3.out]; exact agg_cls) HCC4 hS ?_
    (simp only [Act.put, List.setIfInBounds_toArray, List.set_cons_zero, List.set_cons_succ])
    refine ap_one 2 (by kernel_rfl) ?_
    refine op_call (f := 44) 2 rfl (by rfl) rfl (by simp only [List.map_toArray, List.map_cons, List.map_nil]; rfl) Tryd.func44 (by kernel_rfl) (by kernel_rfl) (HFr _).out ?_
    rintro e w5 ⟨rfl, k5⟩
    replace hS := hS.then k5
    refine ⟨_, rfl, fun _ => hS, ?_⟩
    clear k5
    (simp only [Act.put, List.setIfInBounds_toArray, List.set_cons_zero, List.set_cons_succ])
    refine ap_one 3 (by kernel_rfl) ?_
    refine op_call (f := 43) 3 rfl (by rfl) rfl (by simp only [List.map_toArray, List.map_cons, List.map_nil]; rfl) Tryd.func43 (by kernel_rfl) (by kernel_rfl) (HBu _ (KW4.out.then hS)).out ?_
    rintro e w6 ⟨rfl, k6⟩
    replace hS := hS.then k6
    refine ⟨_, rfl, fun _ => hS, ?_⟩
    clear k6
    rw [numRes_eq]
    generalize bm.getD 0 = bg at *
    generalize bm.isSome = bs at *
    (simp only [Act.put, List.setIfInBounds_toArray, List.set_cons_zero, List.set_cons_succ])
    (refine ap_val (v := ?_) 4 rfl (by kernel_rfl) (by kernel_rfl) (by kernel_rfl) (by kernel_rfl) (by rfl) hPan ?_ hS ?_; rotate_left; (intro w' hSw; go_simp; try with_reducible rfl); simp only [Act.put, List.setIfInBounds_toArray, List.set_cons_zero, List.set_cons_succ])
    (refine ap_val (v := ?_) 5 rfl (by kernel_rfl) (by kernel_rfl) (by kernel_rfl) (by kernel_rfl) (by rfl) hPan ?_ hS ?_; rotate_left; (intro w' hSw; go_simp; try with_reducible rfl); simp only [Act.put, List.setIfInBounds_toArray, List.set_cons_zero, List.set_cons_succ])
    (refine ap_val (v := ?_) 6 rfl (by kernel_rfl) (by kernel_rfl) (by kernel_rfl) (by kernel_rfl) (by rfl) hPan ?_ hS ?_; rotate_left; (intro w' hSw; go_simp; try with_reducible rfl); simp only [Act.put, List.setIfInBounds_toArray, List.set_cons_zero, List.set_cons_succ])
    (refine ap_val (v := ?_) 7 rfl (by kernel_rfl) (by kernel_rfl) (by kernel_rfl) (by kernel_rfl) (by rfl) hPan ?_ hS ?_; rotate_left; (intro w' hSw; go_simp; try with_reducible rfl); simp only [Act.put, List.setIfInBounds_toArray, List.set_cons_zero, List.set_cons_succ])
    refine ap_one 8 (by kernel_rfl) ?_
    refine op_run (v := .bool bs) (w' := w6) 8 rfl (by rfl) (by go_simp) ?_
    refine ⟨fun _ => hS, ap_done (by kernel_rfl) ?_ _⟩
    (simp only [Act.put, List.setIfInBounds_toArray, List.set_cons_zero, List.set_cons_succ])
    have e6 := Lib.hid (E1.out.keep0 hS)
    have KE := Lib.hid (KW4.out.then hS)
    clear hS hPan
    go_wp2_with (refine stop_store 58 (.tmp 4) (.tmp 42) rfl ?_)
    constructor
    refine wpList_store_all rfl 58 (.tmp 4) (.tmp 42) rfl rfl rfl (vs := [.int .i64 bg, .int .i64 0]) agg_span.2 e6.out (by simp [Value.oneCell']) ?_ ?_
    · rfl
    intro wz dz kz
    go_wp2
    refine bodyPost_ret (results_cell_tmp rfl _ rfl rfl dz agg_span) rfl ?_
    exact ⟨by rw [HX.out]; rfl, KE.out.trans kz (fun y hy hlt => by simp at hy; omega)⟩
  · have HX : Hid (edgeRes2 (edgeM x k) = .tuple #[.agg #[.int .i64 lw, .int .i64 0], .bool true]) := by show _ = _; rw [HM.out, if_neg (by decide), if_pos rfl]; rfl
    go_wp2
    refine ap_begin 5 (Keep [] w4) rfl (Keep.refl _ _).drew (fun hS hPan => ?_) (fun _ _ d _ _ h => by cases d <;> exact h)
    refine ap_agg 0 26 (.tmp 2) il rfl (by kernel_rfl) (by kernel_rfl) (by kernel_rfl) (by kernel_rfl) (by rfl) hPan rfl rfl (by rw [HIC.out]; exact agg_image) HCI4 hS ?_
    (simp only [Act.put, List.setIfInBounds_toArray, List.set_cons_zero, List.set_cons_succ])
    refine ap_agg 1 114 (.tmp 7) cc rfl (by kernel_rfl) (by kernel_rfl) (by kernel_rfl) (by kernel_rfl) (by rfl) hPan rfl rfl (by rw [HCL3.out]; exact agg_cls) HCC4 hS ?_
    (simp only [Act.put, List.setIfInBounds_toArray, List.set_cons_zero, List.set_cons_succ])
    refine ap_one 2 (by kernel_rfl) ?_
    refine op_call (f := 46) 2 rfl (by rfl) rfl (by simp only [List.map_toArray, List.map_cons, List.map_nil]; rfl) Tryd.func46 (by kernel_rfl) (by kernel_rfl) (HBo _).out ?_
    rintro e w5 ⟨rfl, k5⟩
    replace hS := hS.then k5
    refine ⟨_, rfl, fun _ => hS, ?_⟩
    clear k5
    (simp only [Act.put, List.setIfInBounds_toArray, List.set_cons_zero, List.set_cons_succ])
    refine ap_one 3 (by kernel_rfl) ?_
    refine op_call (f := 45) 3 rfl (by rfl) rfl (by simp only [List.map_toArray, List.map_cons, List.map_nil]; rfl) Tryd.func45 (by kernel_rfl) (by kernel_rfl) (HLo _ (KW4.out.then hS)).out ?_
    rintro e w6 ⟨rfl, k6⟩
    replace hS := hS.then k6
    refine ⟨_, rfl, fun _ => hS, ?_⟩
    clear k6
    (simp only [Act.put, List.setIfInBounds_toArray, List.set_cons_zero, List.set_cons_succ])
    (refine ap_val (v := ?_) 4 rfl (by kernel_rfl) (by kernel_rfl) (by kernel_rfl) (by kernel_rfl) (by rfl) hPan ?_ hS ?_; rotate_left; (intro w' hSw; go_simp; try with_reducible rfl); simp only [Act.put, List.setIfInBounds_toArray, List.set_cons_zero, List.set_cons_succ])
    have e6 := E1.out.keep0 hS
    have KE := Lib.hid (KW4.out.then hS)
    refine ap_one 5 (by kernel_rfl) ?_
    refine op_store_all (vs := [.int .i64 lw, .int .i64 0]) 5 rfl (by rfl) rfl rfl rfl (by kernel_rfl) e6 (by simp [Value.oneCell']) rfl ?_
    intro wz dz kz
    refine ⟨fun h => (by cases h), ?_⟩
    have KZ := Lib.hid (KE.out.trans kz (fun y hy hlt => by simp at hy; omega))
    (simp only [Act.put])
    refine ap_one 6 (by kernel_rfl) ?_
    refine op_run (v := .bool true) (w' := wz) 6 rfl (by rfl) (by go_simp) ?_
    refine ⟨fun h => (by cases h), ap_done (by kernel_rfl) ?_ _⟩
    (simp only [Act.put, List.setIfInBounds_toArray, List.set_cons_zero, List.set_cons_succ])
    clear hS hPan kz
    go_wp2
    refine bodyPost_ret (results_cell_tmp rfl _ rfl rfl dz agg_span) rfl ?_
    exact ⟨by rw [HX.out]; rfl, KZ.out⟩
  · have HX : Hid (edgeRes2 (edgeM x k) = .tuple #[.agg #[.int .i64 (sp.getD (0, 0)).1, .int .i64 (sp.getD (0, 0)).2], .bool sp.isSome]) := by show _ = _; rw [HM.out, if_neg (by decide), if_neg (by decide)]; rfl
    have hcI4 := Lib.hid (HCI4 w4 (Keep.refl _ _))
    go_wp2_with (first
      | (refine wpList_load_agg rfl 26 (.tmp 2) rfl rfl (cs := il) (by rw [HIC.out]; exact agg_image) hcI4.out ?_)
      | (refine wpList_load_agg rfl 90 (.tmp 56) rfl rfl (cs := oc) (by rw [HOC.out]; exact agg_offs) HCO.out ?_))
    refine (HNe w4 KW4.out).out.mono ?_
    rintro e w5 ⟨rfl, k5⟩
    have K5 := Lib.hid k5
    clear k5 hcI4
    go_wp2_with (refine stop_store 120 (.tmp 10) (.tmp 59) rfl ?_)
    constructor
    refine wpList_store_all rfl 120 (.tmp 10) (.tmp 59) rfl rfl rfl (vs := sc) (by rw [HSL.out]; exact agg_shift.2) (Blk.new _ _ _) hone.out ?_ ?_
    · rw [HSL.out]; rfl
    intro w6 d6 k6
    have k56 : Keep [] w5 w6 := ((Keep.refl [] w5).alloc _).trans k6 (fun y hy hlt => by simp at hy; omega)
    have K6 := Lib.hid (K5.out.then k56)
    have hcA := Lib.hid d6.cellsAt
    clear k6 k56 d6
    go_wp2_with (refine wpList_load_agg rfl 120 (.tmp 10) rfl rfl (cs := sc) (by rw [HSL.out]; exact agg_shift) hcA.out ?_)
    refine (HSp w6 (KW4.out.then K6.out)).out.mono ?_
    rintro e w7 ⟨rfl, k7⟩
    rw [show spanRes sp = .tuple #[.agg #[.int .i64 (sp.getD (0, 0)).1, .int .i64 (sp.getD (0, 0)).2], .bool sp.isSome] from rfl]
    generalize (sp.getD (0, 0)).1 = s1 at *
    generalize (sp.getD (0, 0)).2 = s2 at *
    generalize sp.isSome = s3 at *
    have e7 := Lib.hid (E1.out.keep0 (K6.out.then k7))
    have KE := Lib.hid ((KW4.out.then K6.out).then k7)
    clear k7
    go_wp2_with (refine stop_store 58 (.tmp 4) (.tmp 66) rfl ?_)
    constructor
    refine wpList_store_all rfl 58 (.tmp 4) (.tmp 66) rfl rfl rfl (vs := [.int .i64 s1, .int .i64 s2]) agg_span.2 e7.out (by simp [Value.oneCell']) ?_ ?_
    · rfl
    intro wz dz kz
    go_wp2
    refine bodyPost_ret (results_cell_tmp rfl _ rfl rfl dz agg_span) rfl ?_
    exact ⟨by rw [HX.out]; rfl, KE.out.trans kz (fun y hy hlt => by simp at hy; omega)⟩
end Go.Proofs.YteflgdnekflbbaaDoor

namespace Go.Proofs.YteflgdnekflbbaaDoor
open Go.RowKit
attribute [local go_sem] Oper.semAt_some

def modeRows (x : Img) (i : Nat) : List RowM := (modeM x (setOf10 x (i : Int))).rows
def modeFit (x : Img) (i : Nat) : Bool := (modeM x (setOf10 x (i : Int))).ok
def firstNot (p : Nat → Bool) (n : Nat) : Option Nat := (List.range n).find? (fun i => !p i)
theorem firstNot_some {p : Nat → Bool} {n k : Nat} (hk : k < n) (h : p k = false) (hb : ∀ i, i < k → p i = true) : firstNot p n = some k := by
  unfold firstNot
  rw [List.find?_range_eq_some]
  exact ⟨by rw [h]; rfl, List.mem_range.2 hk, fun j hj => by simp [hb j hj]⟩
theorem firstNot_none {p : Nat → Bool} {n : Nat} (h : ∀ i, i < n → p i = true) : firstNot p n = none := by
  unfold firstNot
  rw [List.find?_range_eq_none]
  intro i hi
  simp [h i hi]
theorem firstNot_of_none {p : Nat → Bool} {n : Nat} (h : firstNot p n = none) : ∀ i, i < n → p i = true := by
  unfold firstNot at h
  rw [List.find?_range_eq_none] at h
  intro i hi
  simpa using h i hi
def noCrt : Crt := ⟨[], []⟩
def fullCrt (x : Img) : Crt := ⟨(List.range x.modes.length).map (modeRows x), (List.range x.edges.length).map (fun i => (edgeM x i).1)⟩
def admM (x : Img) : Crt × Int × Int :=
  if (chkImg x).2 = 0 then
    match firstNot (modeFit x) x.modes.length with
    | some i => (noCrt, (i : Int), 180)
    | none => match firstNot (fun i => (edgeM x i).2) x.edges.length with
      | some i => (noCrt, (i : Int), 190)
      | none => (fullCrt x, 0, 0)
  else (noCrt, (chkImg x).1, (chkImg x).2)
theorem admM_bad {x : Img} (h : ¬ (chkImg x).2 = 0) : admM x = (noCrt, (chkImg x).1, (chkImg x).2) := by
  unfold admM
  rw [if_neg h]
theorem admM_mode {x : Img} (h : (chkImg x).2 = 0) {i : Nat} (hi : firstNot (modeFit x) x.modes.length = some i) : admM x = (noCrt, (i : Int), 180) := by
  unfold admM
  rw [if_pos h, hi]
theorem admM_edge {x : Img} (h : (chkImg x).2 = 0) (hm : firstNot (modeFit x) x.modes.length = none) {i : Nat} (hi : firstNot (fun i => (edgeM x i).2) x.edges.length = some i) : admM x = (noCrt, (i : Int), 190) := by
  unfold admM
  rw [if_pos h, hm]
  simp only [hi]
theorem admM_full {x : Img} (h : (chkImg x).2 = 0) (hm : firstNot (modeFit x) x.modes.length = none) (hi : firstNot (fun i => (edgeM x i).2) x.edges.length = none) : admM x = (fullCrt x, 0, 0) := by
  unfold admM
  rw [if_pos h, hm]
  simp only [hi]
theorem adm_ok {x : Img} (h : (admM x).2.2 = 0) : (chkImg x).2 = 0 ∧ (∀ i, i < x.modes.length → modeFit x i = true) ∧ admM x = (fullCrt x, 0, 0) := by
  by_cases hc : (chkImg x).2 = 0
  · refine ⟨hc, ?_⟩
    cases hm : firstNot (modeFit x) x.modes.length with
    | some i => rw [admM_mode hc hm] at h; exact absurd h (show ¬ (180 : Int) = 0 by decide)
    | none =>
      refine ⟨firstNot_of_none hm, ?_⟩
      cases he : firstNot (fun i => (edgeM x i).2) x.edges.length with
      | some i => rw [admM_edge hc hm he] at h; exact absurd h (show ¬ (190 : Int) = 0 by decide)
      | none => exact admM_full hc hm he
  · rw [admM_bad hc] at h; exact absurd h hc
theorem offsOk_in (prot : Int) (a b : Nat) : ∀ (L : List Int) (s : Nat), offsOk prot a b s L = true → ∀ z ∈ L, 0 ≤ z ∧ z ≤ 16384
  | [], _, _ => fun z hz => by simp at hz
  | n :: l, s, g => fun z hz => by
    rw [offsOk] at g
    simp only [Bool.and_eq_true, inR_iff] at g
    rcases List.mem_cons.1 hz with rfl | hz
    · exact g.1.1
    · exact offsOk_in prot a b l _ g.2 z hz
theorem edge_offs {x : Img} (hr : (chkImg x).2 = 0) (ho : x.Ok) (k : Nat) (hk : k < x.edges.length) : (1 ≤ x.edges[k].prot ∧ x.edges[k].prot ≤ 3) ∧ OffOk x.edges[k].offs := by
  have hR := right_of hr
  refine ⟨(hR.edgeIn k hk).2.2, ho.offs _ (List.getElem_mem hk), ?_⟩
  have := hR.edge k hk
  unfold edgOk at this
  simp only [Bool.and_eq_true] at this
  obtain ⟨_, g⟩ := this
  exact offsOk_in _ _ _ _ _ g

/-- Three results, the first one in cells. -/
theorem results_cell_two {P : Program} {w : World} {fn : Func} {p q r : Tmp} {ty : TypeId} (h : fn.results = #[.cell p ty, .tmp q, .tmp r]) (tmps : Array Value) {g t : Nat} {vs : List Value} {v u : Value} (hp : tmps.getD p undef = .pointer (some ⟨g, 0, none⟩)) (hq : tmps.getD q undef = v) (hr : tmps.getD r undef = u)
    (hb : Blk w g t vs.toArray) (hA : AggOf P ty vs.length) : (results fn tmps).run P w = .ok (.tuple #[.agg vs.toArray, v, u]) w := by
  have hp' : tmps[p]?.getD undef = .pointer (some ⟨g, 0, none⟩) := by simpa using hp
  have hq' : tmps[q]?.getD undef = v := by simpa using hq
  have hr' : tmps[r]?.getD undef = u := by simpa using hr
  have hc : CellsAt w g 0 vs := fun j u hu => by rw [Nat.zero_add, hb.cell]; simpa using hu
  simp [results, h, hp', hq', hr', asAddr, run_loadVar_agg hA hc]
def RowV (w : World) (B : Nat) (rows : List RowM) (u : Option Value) : Prop :=
  ∃ A c, u = some (.slice A rows.length c) ∧ w.ownsRow B 110 3 (.slice A rows.length c) rows.length (rows.flatMap rowCells)
/-- Two rows of two types lie apart. -/
theorem own_apart {w : World} {B B2 e e2 s s2 n n2 : Nat} {v v2 : Value} {xs xs2 : List Value} (h : w.ownsRow B e s v n xs) (h2 : w.ownsRow B2 e2 s2 v2 n2 xs2) (hne : e ≠ e2) {F : List Nat} (hF : ∀ y, y ∈ F → y ∈ v2.ownBlock.toList) : ∀ g, v.ownBlock = some g → g ∉ F := by
  intro g hg hm
  obtain ⟨cs, fr, h3⟩ := row_typed h g (by simp [hg])
  obtain ⟨cs2, fr2, h4⟩ := row_typed h2 g (hF g hm)
  rw [h3] at h4
  cases h4
  exact hne rfl
theorem own_apart_blk {w : World} {B e s n g t : Nat} {v : Value} {xs : List Value} {cs : Array Value} (h : w.ownsRow B e s v n xs) (hb : Blk w g t cs) (hne : e ≠ t) : ∀ y, v.ownBlock = some y → y ∉ [g] := by
  intro y hy hm
  simp at hm
  subst hm
  exact own_blk_ne h hb hne hy
/-- What the loops of Admit keep: k modes and j edges are laid. -/
def AdmAt (x : Img) (B g k j : Nat) (W : World) : Prop :=
  ∃ vs A cp E ce, vs.length = k ∧ Blk W g 54 #[.slice A k cp, .slice E j ce] ∧ W.ownsRow B 79 1 (.slice A k cp) k vs ∧ (∀ i, i < k → RowV W B (modeRows x i) vs[i]?) ∧
    W.ownsRow B 58 2 (.slice E j ce) j ((List.range j).flatMap (fun i => spnCells (edgeM x i).1))
theorem AdmAt.keep0 {x : Img} {B g k j : Nat} {W W' : World} (h : AdmAt x B g k j W) (K : Keep [] W W') : AdmAt x B g k j W' := by
  obtain ⟨vs, A, cp, E, ce, h1, h2, h3, h4, h5⟩ := h
  exact ⟨vs, A, cp, E, ce, h1, h2.keep0 K, own_keep0 h3 K, fun i hi => by obtain ⟨A2, c2, a, b⟩ := h4 i hi; exact ⟨A2, c2, a, own_keep0 b K⟩, own_keep0 h5 K⟩
theorem adm_mode {x : Img} {B g k j : Nat} {W w6 : World} {vs : List Value} {A E : Option Addr} {cp ce : Nat} {v' : Value} {u : Value} (h1 : vs.length = k) (h2 : Blk W g 54 #[.slice A k cp, .slice E j ce]) (h3 : W.ownsRow B 79 1 (.slice A k cp) k vs)
    (h4 : ∀ i, i < k → RowV W B (modeRows x i) vs[i]?) (h5 : W.ownsRow B 58 2 (.slice E j ce) j ((List.range j).flatMap (fun i => spnCells (edgeM x i).1))) (h6 : RowV W B (modeRows x k) (some u))
    (hk : Keep (Value.slice A k cp).ownBlock.toList W w6) (ho : w6.ownsRow B 79 1 v' (k + 1) (vs ++ [u])) :
    AdmAt x B g (k + 1) j (w6.setCell ⟨g, 0, none⟩ v') ∧ Keep (g :: (Value.slice A k cp).ownBlock.toList) W (w6.setCell ⟨g, 0, none⟩ v') := by
  have hb6 : Blk w6 g 54 #[.slice A k cp, .slice E j ce] := h2.keep hk (by simpa using own_blk_ne h3 h2 (by decide))
  have ks := keep_set w6 g 0 v'
  obtain ⟨A', c', rfl⟩ := own_shape ho
  have hrow : ∀ rows u, RowV W B rows u → RowV (w6.setCell ⟨g, 0, none⟩ (.slice A' (k + 1) c')) B rows u := by
    rintro rows u ⟨A2, c2, e, o⟩
    have o6 := own_keep o hk (own_apart o h3 (by decide) (fun y hy => hy))
    exact ⟨A2, c2, e, own_keep o6 ks (own_apart_blk o6 hb6 (by decide))⟩
  have h56 := own_keep h5 hk (own_apart h5 h3 (by decide) (fun y hy => hy))
  refine ⟨⟨vs ++ [u], A', c', E, ce, by simp [h1], by simpa using hb6.set_ 0 (.slice A' (k + 1) c'), own_keep ho ks (own_apart_blk ho hb6 (by decide)), fun i hi => ?_, own_keep h56 ks (own_apart_blk h56 hb6 (by decide))⟩, ?_⟩
  · by_cases hik : i < k
    · rw [List.getElem?_append_left (by omega)]
      exact hrow _ _ (h4 i hik)
    · obtain rfl : i = k := by omega
      rw [← h1, List.getElem?_append_right (by omega)]
      simp only [Nat.sub_self, List.getElem?_cons_zero]
      rw [h1]
      exact hrow _ _ h6
  · exact (hk.mono (fun y hy _ => List.mem_cons_of_mem _ hy)).trans ks (fun y hy _ => by simp at hy; subst hy; simp)
theorem adm_edge {x : Img} {B g k j : Nat} {W w6 : World} {vs : List Value} {A E : Option Addr} {cp ce : Nat} {v' : Value} (h1 : vs.length = k) (h2 : Blk W g 54 #[.slice A k cp, .slice E j ce]) (h3 : W.ownsRow B 79 1 (.slice A k cp) k vs)
    (h4 : ∀ i, i < k → RowV W B (modeRows x i) vs[i]?) (h5 : W.ownsRow B 58 2 (.slice E j ce) j ((List.range j).flatMap (fun i => spnCells (edgeM x i).1)))
    (hk : Keep (Value.slice E j ce).ownBlock.toList W w6) (ho : w6.ownsRow B 58 2 v' (j + 1) ((List.range j).flatMap (fun i => spnCells (edgeM x i).1) ++ spnCells (edgeM x j).1)) :
    AdmAt x B g k (j + 1) (w6.setCell ⟨g, 1, none⟩ v') ∧ Keep (g :: (Value.slice E j ce).ownBlock.toList) W (w6.setCell ⟨g, 1, none⟩ v') := by
  have hb6 : Blk w6 g 54 #[.slice A k cp, .slice E j ce] := h2.keep hk (by simpa using own_blk_ne h5 h2 (by decide))
  have ks := keep_set w6 g 1 v'
  obtain ⟨A', c', rfl⟩ := own_shape ho
  have hrow : ∀ rows u, RowV W B rows u → RowV (w6.setCell ⟨g, 1, none⟩ (.slice A' (j + 1) c')) B rows u := by
    rintro rows u ⟨A2, c2, e, o⟩
    have o6 := own_keep o hk (own_apart o h5 (by decide) (fun y hy => hy))
    exact ⟨A2, c2, e, own_keep o6 ks (own_apart_blk o6 hb6 (by decide))⟩
  have h36 := own_keep h3 hk (own_apart h3 h5 (by decide) (fun y hy => hy))
  refine ⟨⟨vs, A, cp, A', c', h1, by simpa using hb6.set_ 1 (.slice A' (j + 1) c'), own_keep h36 ks (own_apart_blk h36 hb6 (by decide)), fun i hi => hrow _ _ (h4 i hi), ?_⟩, ?_⟩
  · rw [List.range_succ, List.flatMap_append]
    simpa using own_keep ho ks (own_apart_blk ho hb6 (by decide))
  · exact (hk.mono (fun y hy _ => List.mem_cons_of_mem _ hy)).trans ks (fun y hy _ => by simp at hy; subst hy; simp)
theorem modeRows_len (x : Img) (i : Nat) : (modeRows x i).length ≤ 32 := by
  unfold modeRows modeM
  split
  · simp
  · rw [rowsIn_len]; exact bitsL_le _
theorem own_low {w w' : World} {B e s n : Nat} {v : Value} {xs : List Value} {F : List Nat} (h : w.ownsRow B e s v n xs) (K : Keep F w w') (hF : ∀ y, y ∈ F → y < B) : w'.ownsRow B e s v n xs :=
  own_keep h K (fun g hg hm => by have h1 := hF g hm; have := (h.lt g hg).1; omega)
theorem AdmAt.crt {x : Img} {B g : Nat} {W : World} (h : AdmAt x B g x.modes.length x.edges.length W) (hm : x.modes.length ≤ 8) (he : x.edges.length ≤ 24) :
    ∃ v, Blk W g 54 (crtCells v (fullCrt x)).toArray ∧ ∀ F W', Keep F W W' → (∀ y, y ∈ F → y < B) → CrtAt W' v (fullCrt x) := by
  obtain ⟨vs, A, cp, E, ce, h1, h2, h3, h4, h5⟩ := h
  have e1 : (fullCrt x).modes.length = x.modes.length := by simp [fullCrt]
  have e2 : (fullCrt x).edges.length = x.edges.length := by simp [fullCrt]
  refine ⟨⟨A, cp, E, ce⟩, ?_, fun F W' K hF => ⟨⟨vs, by rw [h1, e1], by rw [e1]; exact Reads.of_own (own_low h3 K hF), fun i hi => ?_⟩, ?_, by omega, by omega, ?_⟩⟩
  · unfold crtCells
    rw [e1, e2]
    exact h2
  · rw [e1] at hi
    obtain ⟨A2, c2, a, b⟩ := h4 i hi
    have e3 : (fullCrt x).modes[i]'(by rw [e1]; exact hi) = modeRows x i := by simp [fullCrt]
    rw [e3]
    exact ⟨A2, c2, a, Reads.of_own (own_low b K hF)⟩
  · rw [e2]
    have := Reads.of_own (own_low h5 K hF)
    simpa [fullCrt, List.flatMap_map] using this
  · intro r hr
    simp only [fullCrt, List.mem_map] at hr
    obtain ⟨i, _, rfl⟩ := hr
    have := modeRows_len x i
    omega
end Go.Proofs.YteflgdnekflbbaaDoor

namespace Go.Proofs.YteflgdnekflbbaaDoor
open Go.RowKit
attribute [local go_sem] Oper.semAt_some

/-- What Admit answers: the certificate lies in memory. -/
def RetAdm (w : World) (r : Crt × Int × Int) (e : Ending) (w' : World) : Prop :=
  ∃ v, e = .returned (.tuple #[.agg (crtCells v r.1).toArray, .int .i64 r.2.1, .int .i64 r.2.2]) ∧ CrtAt w' v r.1 ∧ Keep [] w w'
/-- The same; what was there ahead of it may change. -/
def RetAdmF (w : World) (r : Crt × Int × Int) (e : Ending) (w' : World) : Prop :=
  ∃ v, e = .returned (.tuple #[.agg (crtCells v r.1).toArray, .int .i64 r.2.1, .int .i64 r.2.2]) ∧ (∀ F w2, Keep F w' w2 → (∀ y, y ∈ F → y < w.heap.size) → CrtAt w2 v r.1) ∧ Keep [] w w'
def noV : CrtV := ⟨none, 0, none, 0⟩
theorem crtAt_no (w : World) : CrtAt w noV noCrt := ⟨⟨[], rfl, ⟨rfl, fun h => by simp [noCrt] at h⟩, fun i h => by simp [noCrt] at h⟩, ⟨rfl, fun h => by simp [noCrt] at h⟩, by simp [noCrt], by simp [noCrt], by simp [noCrt]⟩
theorem slice_rows : SliceOf Tryd.prog 51 79 1 24 := ⟨Tryd.underlying51, by kernel_rfl, by decide⟩
theorem slice_spans : SliceOf Tryd.prog 52 58 2 16 := ⟨Tryd.underlying52, by kernel_rfl, by decide⟩
set_option maxRecDepth 100000 in
set_option maxHeartbeats 4000000 in
theorem admitF_any (v : ImgV) (x : Img) (w : World) (hTb : Tab w) (h : ImgAt w v x) :
    Calls Tryd.prog 13 #[.agg (imgCells v x).toArray] w (RetAdmF w (admM x)) := by
  obtain ⟨W0, hW0⟩ : ∃ W0, (w.alloc (.cells (imgCells v x).toArray 26)).alloc (.cells #[.slice none 0 0, .slice none 0 0] 54) = W0 := ⟨_, rfl⟩
  have b0 : Blk W0 w.heap.size 26 (imgCells v x).toArray := by rw [← hW0]; exact (img_box w v x).alloc _
  have b1 : Blk W0 (w.heap.size + 1) 54 #[.slice none 0 0, .slice none 0 0] := by rw [← hW0]; exact Blk.new1 _ _ _ _
  have K0 : Keep [] w W0 := by rw [← hW0]; exact ((Keep.refl [] w).alloc _).alloc _
  have hz0 : W0.heap.size = w.heap.size + 2 := by rw [← hW0]; simp
  have HIC : Hid ((imgCells v x).length = 4) := show _ = _ from rfl
  have HC := Lib.hid (check_any v x W0 (h.keep0 K0))
  have HCI := fun w' (k : Keep [] W0 w') => Lib.hid ((b0.keep0 k).cellsAt)
  have HI2 : Hid (∀ w', Keep [] W0 w' → w'.cell? ⟨w.heap.size, 2, none⟩ = some (.slice v.ma x.modes.length v.mc) ∧ w'.cell? ⟨w.heap.size, 3, none⟩ = some (.slice v.ea x.edges.length v.ec)) := fun w' hk => ⟨img_c2 (b0.keep0 hk), img_c3 (b0.keep0 hk)⟩
  have HB1 := fun w' (k : Keep [] W0 w') => Lib.hid (b1.keep0 k)
  have HK0 := Lib.hid K0
  have HZ0 := Lib.hid hz0
  have HW := Lib.hid hW0
  have HX := Lib.hid h
  have HT := Lib.hid hTb
  have HTa := fun (i : Nat) w' (k : Keep [] W0 w') => Lib.hid (tasks_any v x (i : Int) w' (h.keep0 (K0.then k)))
  have HMo := fun (hs : Small x) (i : Nat) w' (k : Keep [] W0 w') => Lib.hid (mode_any v x (setOf10 x (i : Int)) w' (hTb.keep0 (K0.then k)) (h.keep0 (K0.then k)) (setOf10_lt x _ h.ok) hs)
  have HEd := fun (hE : ∀ k, k < x.edges.length → EdW x k) (hP : ∀ k, (hk : k < x.edges.length) → (1 ≤ x.edges[k].prot ∧ x.edges[k].prot ≤ 3) ∧ OffOk x.edges[k].offs) (i : Nat) (hi : i < x.edges.length) w' (k : Keep [] W0 w') => Lib.hid (wedge_any v x i w' (hTb.keep0 (K0.then k)) (h.keep0 (K0.then k)) (hE i hi) hi (hP i hi).1 (hP i hi).2)
  have HA0 : Hid (¬ (chkImg x).2 = 0 → admM x = (noCrt, (chkImg x).1, (chkImg x).2)) := fun h => admM_bad h
  have HA1 : Hid ((chkImg x).2 = 0 → ∀ i, firstNot (modeFit x) x.modes.length = some i → admM x = (noCrt, (i : Int), 180)) := fun h i => admM_mode h
  have HA2 : Hid ((chkImg x).2 = 0 → firstNot (modeFit x) x.modes.length = none → ∀ i, firstNot (fun i => (edgeM x i).2) x.edges.length = some i → admM x = (noCrt, (i : Int), 190)) := fun h hm i => admM_edge h hm
  have HA3 : Hid ((chkImg x).2 = 0 → firstNot (modeFit x) x.modes.length = none → firstNot (fun i => (edgeM x i).2) x.edges.length = none → admM x = (fullCrt x, 0, 0)) := fun h => admM_full h
  have hso : (chkImg x).2 = 0 → Small x := small_of
  have heo : (chkImg x).2 = 0 → ∀ k, k < x.edges.length → EdW x k := fun hc k hk => edW_of hc h.ok hk
  have hpo : (chkImg x).2 = 0 → ∀ k, (hk : k < x.edges.length) → (1 ≤ x.edges[k].prot ∧ x.edges[k].prot ≤ 3) ∧ OffOk x.edges[k].offs := fun hc k hk => edge_offs hc h.ok k hk
  have hnn : (chkImg x).2 = 0 → x.modes.length ≤ 8 ∧ x.edges.length ≤ 24 := fun hc => ⟨(right_of hc).nm.2, (right_of hc).ne⟩
  clear h hTb K0 hz0 hW0 b0 b1
  generalize imgCells v x = il at *
  generalize chkImg x = cr at *
  obtain ⟨c1, c2⟩ := cr
  by_cases hc : c2 = 0
  · subst hc
    replace HMo := HMo (hso rfl)
    replace HEd := HEd (heo rfl) (hpo rfl)
    obtain ⟨hn8, he24⟩ := hnn rfl
    have HN8 := Lib.hid hn8
    have HE24 := Lib.hid he24
    replace HA1 := Lib.hid (HA1.out rfl)
    replace HA2 := Lib.hid (HA2.out rfl)
    replace HA3 := Lib.hid (HA3.out rfl)
    clear HA0
    clear hso heo hpo hnn
    go_enter Tryd.func13, Tryd.ntmps13
    clear hn8 he24
    go_wp2_with (first
      | rw [HW.out]
      | (refine wpList_load_agg rfl 26 (.tmp 1) rfl rfl (cs := il) (by rw [HIC.out]; exact agg_image) (HCI _ (Keep.refl _ _)).out ?_))
    refine HC.out.mono ?_
    rintro e w1 ⟨rfl, k1⟩
    rw [chkRes]
    obtain ⟨V0, hV⟩ : ∃ V0, w1.alloc (.cells #[.slice none 0 0, .slice none 0 0] 54) = V0 := ⟨_, rfl⟩
    have KV0 : Keep [] W0 V0 := by rw [← hV]; exact k1.alloc _
    have d0 : Blk V0 w1.heap.size 54 #[.slice none 0 0, .slice none 0 0] := by rw [← hV]; exact Blk.new _ _ _
    have hzV0 : V0.heap.size = w1.heap.size + 1 := by rw [← hV]; simp
    have HV := Lib.hid hV
    have HZ1 := Lib.hid k1.size
    clear hV k1
    go_wp2_with (first | rw [HV.out] | (refine stop_store 54 (.tmp 7) (.tmp 25) rfl ?_))
    constructor
    refine wpList_store_all rfl 54 (.tmp 7) (.tmp 25) rfl rfl rfl (vs := [.slice none 0 0, .slice none 0 0]) agg_cert.2 d0 (by simp [Value.oneCell']) ?_ ?_
    · rfl
    intro V d1 kV
    have KV : Keep [] W0 V := KV0.trans kV (fun y hy hlt => by simp at hy; have := HZ1.out; omega)
    have hzV : w1.heap.size < V.heap.size := by have := kV.size; omega
    obtain ⟨f2, f3⟩ := HI2.out V KV
    clear d0 KV0 kV hzV0 HV
    go_wp2
    have st : AdmAt x V.heap.size w1.heap.size 0 0 V := ⟨[], none, 0, none, 0, rfl, d1, World.ownsRow_nil _ _ _ _, fun i hi => absurd hi (Nat.not_lt_zero _), World.ownsRow_nil _ _ _ _⟩
    have HKV := Lib.hid KV
    have HZV := Lib.hid hzV
    clear d1 hzV KV
    go_loopw [29] (fun vi wr => ∃ k : Nat, k ≤ x.modes.length ∧ vi = .int .i64 (k : Int) ∧ AdmAt x V.heap.size w1.heap.size k 0 wr ∧ Keep [w1.heap.size] V wr ∧ ∀ i, i < k → modeFit x i = true) (fun i _ => x.modes.length - (intOf i).toNat)
    case atStart => exact ⟨0, Nat.zero_le _, rfl, st, Keep.refl _ _, fun i hi => absurd hi (Nat.not_lt_zero _)⟩
    case round =>
      clear st f2 f3
      obtain ⟨k, hk, rfl, hAd, hK, hF⟩ := hrel
      have hz0 := HZ1.out
      have KR : Keep [] W0 wr := HKV.out.trans hK (fun y hy hlt => by simp at hy; omega)
      have hn8 := HN8.out
      by_cases hlt : k < x.modes.length
      · have HCr : ∀ w', Keep [] wr w' → CellsAt w' w.heap.size 0 il := fun w' hk' => (HCI w' (KR.then hk')).out
        have HTk := fun w' (hk' : Keep [] wr w') => Lib.hid (HTa k w' (KR.then hk')).out
        have HMk := fun w' (hk' : Keep [] wr w') => Lib.hid (HMo k w' (KR.then hk')).out
        have HB1k := fun w' (hk' : Keep [] wr w') => Lib.hid (HB1 w' (KR.then hk')).out
        have HRW : Hid (modeRows x k = (modeM x (setOf10 x (k : Int))).rows) := show _ = _ from rfl
        have HFT : Hid (modeFit x k = (modeM x (setOf10 x (k : Int))).ok) := show _ = _ from rfl
        have HFL := Lib.hid hF
        have HAd := Lib.hid hAd
        have HKR := Lib.hid KR
        have HK := Lib.hid hK
        generalize modeM x (setOf10 x (k : Int)) = m at *
        obtain ⟨rs, at_, ok⟩ := m
        simp only at HRW HFT
        clear hF hAd KR hK hz0
        go_wp2
        refine ap_begin 11 (Keep [] wr) rfl (Keep.refl _ _).drew (fun hS hPan => ?_) (fun _ _ d _ _ h => by cases d <;> exact h)
        refine ap_agg 0 26 (.tmp 1) il rfl (by kernel_rfl) (by kernel_rfl) (by kernel_rfl) (by kernel_rfl) (by rfl) hPan rfl rfl (by rw [HIC.out]; exact agg_image) HCr hS ?_
        (simp only [Act.put, List.setIfInBounds_toArray, List.set_cons_zero, List.set_cons_succ])
        refine ap_agg 1 26 (.tmp 1) il rfl (by kernel_rfl) (by kernel_rfl) (by kernel_rfl) (by kernel_rfl) (by rfl) hPan rfl rfl (by rw [HIC.out]; exact agg_image) HCr hS ?_
        (simp only [Act.put, List.setIfInBounds_toArray, List.set_cons_zero, List.set_cons_succ])
        (refine ap_val (v := ?_) 2 rfl (by kernel_rfl) (by kernel_rfl) (by kernel_rfl) (by kernel_rfl) (by rfl) hPan ?_ hS ?_; rotate_left; (intro w' hSw; go_simp; try with_reducible rfl); simp only [Act.put, List.setIfInBounds_toArray, List.set_cons_zero, List.set_cons_succ])
        refine ap_one 3 (by kernel_rfl) ?_
        refine op_call (f := 27) (vs := #[.agg il.toArray, .int .i64 (k : Int)]) 3 rfl (by rfl) rfl (by simp only [List.map_toArray, List.map_cons, List.map_nil]; rfl) Tryd.func27 (by kernel_rfl) (by kernel_rfl) (HTk _ hS).out ?_
        rintro e w3 ⟨rfl, k3⟩
        replace hS := hS.then k3
        refine ⟨_, rfl, fun _ => hS, ?_⟩
        have hz3 := hS.size
        clear k3
        (simp only [Act.put, List.setIfInBounds_toArray, List.set_cons_zero, List.set_cons_succ])
        refine ap_one 4 (by kernel_rfl) ?_
        refine op_call (f := 26) (vs := #[.agg il.toArray, .int .u32 (setOf10 x (k : Int) : Int)]) 4 rfl (by rfl) rfl (by simp only [List.map_toArray, List.map_cons, List.map_nil]; rfl) Tryd.func26 (by kernel_rfl) (by kernel_rfl) (HMk _ hS).out ?_
        rintro e w4 ⟨A5, c5, rfl, o5, k4⟩
        replace hS := hS.then k4
        refine ⟨_, rfl, fun _ => hS, ?_⟩
        clear k4
        (simp only [Act.put, List.setIfInBounds_toArray, List.set_cons_zero, List.set_cons_succ])
        (refine ap_val (v := ?_) 5 rfl (by kernel_rfl) (by kernel_rfl) (by kernel_rfl) (by kernel_rfl) (by rfl) hPan ?_ hS ?_; rotate_left; (intro w' hSw; go_simp; try with_reducible rfl); simp only [Act.put, List.setIfInBounds_toArray, List.set_cons_zero, List.set_cons_succ])
        (refine ap_val (v := ?_) 6 rfl (by kernel_rfl) (by kernel_rfl) (by kernel_rfl) (by kernel_rfl) (by rfl) hPan ?_ hS ?_; rotate_left; (intro w' hSw; go_simp; try with_reducible rfl); simp only [Act.put, List.setIfInBounds_toArray, List.set_cons_zero, List.set_cons_succ])
        (refine ap_val (v := ?_) 7 rfl (by kernel_rfl) (by kernel_rfl) (by kernel_rfl) (by kernel_rfl) (by rfl) hPan ?_ hS ?_; rotate_left; (intro w' hSw; go_simp; try with_reducible rfl); simp only [Act.put, List.setIfInBounds_toArray, List.set_cons_zero, List.set_cons_succ])
        (refine ap_val (v := ?_) 8 rfl (by kernel_rfl) (by kernel_rfl) (by kernel_rfl) (by kernel_rfl) (by rfl) hPan ?_ hS ?_; rotate_left; (intro w' hSw; go_simp; try with_reducible rfl); simp only [Act.put, List.setIfInBounds_toArray, List.set_cons_zero, List.set_cons_succ])
        (refine ap_val (v := ?_) 9 rfl (by kernel_rfl) (by kernel_rfl) (by kernel_rfl) (by kernel_rfl) (by rfl) hPan ?_ hS ?_; rotate_left; (intro w' hSw; go_simp; try with_reducible rfl); simp only [Act.put, List.setIfInBounds_toArray, List.set_cons_zero, List.set_cons_succ])
        (refine ap_val (v := ?_) 10 rfl (by kernel_rfl) (by kernel_rfl) (by kernel_rfl) (by kernel_rfl) (by rfl) hPan ?_ hS ?_; rotate_left; (intro w' hSw; go_simp; try with_reducible rfl); simp only [Act.put, List.setIfInBounds_toArray, List.set_cons_zero, List.set_cons_succ])
        refine ap_one 11 (by kernel_rfl) ?_
        refine op_run (v := .bool ok) (w' := w4) 11 rfl (by rfl) (by go_simp) ?_
        refine ⟨fun _ => hS, ap_done (by kernel_rfl) ?_ _⟩
        (simp only [Act.put, List.setIfInBounds_toArray, List.set_cons_zero, List.set_cons_succ])
        have KR4 := HKR.out.then hS
        have K4 := HK.out.trans hS (fun y hy hlt => by simp at hy)
        have hzV := HK.out.size
        have hB : V.heap.size ≤ w4.heap.size := K4.size
        have hrow : RowV w4 V.heap.size (modeRows x k) (some (.slice A5 rs.length c5)) := by rw [HRW.out]; exact ⟨A5, c5, rfl, own_base o5 (by omega)⟩
        obtain ⟨vs, A, cp, E, ce, h1, h2, h3, h4, h5⟩ := HAd.out.keep0 hS
        have hz1 := HZ1.out
        have hz0 := HZ0.out
        clear hS hPan o5 hzV hz3
        cases ok with
        | false =>
          have HX : Hid (admM x = (noCrt, (k : Int), 180)) := HA1.out k (firstNot_some hlt HFT.out HFL.out)
          go_wp2_with (refine stop_store 54 (.tmp 2) (.tmp 43) rfl ?_)
          constructor
          refine wpList_store_all rfl 54 (.tmp 2) (.tmp 43) rfl rfl rfl (vs := [.slice none 0 0, .slice none 0 0]) agg_cert.2 (HB1 w4 KR4).out (by simp [Value.oneCell']) ?_ ?_
          · rfl
          intro wz dz kz
          go_wp2
          refine bodyPost_ret (results_cell_two rfl _ rfl rfl rfl dz agg_cert) rfl ?_
          exact ⟨noV, by rw [HX.out]; rfl, fun _ _ _ _ => by rw [HX.out]; exact crtAt_no _, (HK0.out.then KR4).trans kz (fun y hy hlt => by simp at hy; omega)⟩
        | true =>
          have q0 := h2.cell 0
          simp at q0
          go_wp2_with (at_builtin; refine wpList_append_one rfl (.tmp 46) (.tmp 48) 51 rfl slice_rows h3 rfl rfl (us := [.slice A5 rs.length c5]) rfl (by simp [Value.oneCell']) hB (by omega) (by unfold maxLen; omega) ?_; intro v' w6 hown hk6 hat; obtain ⟨A', c', rfl⟩ := own_shape hown; have hb6 := h2.keep hk6 (by simpa using own_blk_ne h3 h2 (by decide)); have hc6 := hb6.cell 0; have hf6 := hb6.frozen 0; simp at hc6)
          obtain ⟨ad, kd⟩ := adm_mode h1 h2 h3 h4 h5 hrow hk6 hown
          have hlt' := fun z hz => (h3.lt z (by simpa using hz)).1
          go_roundw
          case rel => exact ⟨k + 1, by omega, by go_num, ad, K4.trans kd (fun y hy hl => by
            rcases List.mem_cons.1 hy with rfl | hy
            · simp
            · have := hlt' y (by simpa using hy); omega), fun i hi => by
            by_cases hik : i < k
            · exact HFL.out i hik
            · obtain rfl : i = k := by omega
              exact HFT.out⟩
          case measure => simp [intOf] <;> omega
      · obtain rfl : k = x.modes.length := by omega
        obtain ⟨f2, f3⟩ := HI2.out wr KR
        have HNM : Hid (firstNot (modeFit x) x.modes.length = none) := firstNot_none hF
        generalize wr = wo at *
        clear hF f2 KR hlt
        have he24 := HE24.out
        go_wp2
        have st : AdmAt x V.heap.size w1.heap.size x.modes.length 0 wo := hAd
        clear hAd f3
        go_loopw [55] (fun vi wr => ∃ k : Nat, k ≤ x.edges.length ∧ vi = .int .i64 (k : Int) ∧ AdmAt x V.heap.size w1.heap.size x.modes.length k wr ∧ Keep [w1.heap.size] V wr ∧ ∀ i, i < k → (edgeM x i).2 = true) (fun i _ => x.edges.length - (intOf i).toNat)
        case atStart => exact ⟨0, Nat.zero_le _, rfl, st, hK, fun i hi => absurd hi (Nat.not_lt_zero _)⟩
        case round =>
          clear st hK hk
          obtain ⟨k, hk, rfl, hAd, hK, hF⟩ := hrel
          have KR : Keep [] W0 wr := HKV.out.trans hK (fun y hy hlt => by simp at hy; omega)
          by_cases hlt : k < x.edges.length
          · have HCr := HCI wr KR
            have HEk := HEd k hlt wr KR
            have hk0 : (0 : Int) ≤ (k : Int) := by omega
            have hk1 : (k : Int) < (x.edges.length : Int) := by omega
            cases hem : edgeM x k with
            | mk ab s =>
            obtain ⟨ra, rb⟩ := ab
            rw [hem] at HEk
            simp only [edgeRes2] at HEk
            go_wp2_with (refine wpList_load_agg rfl 26 (.tmp 1) rfl rfl (cs := il) (by rw [HIC.out]; exact agg_image) HCr.out ?_)
            refine HEk.out.mono ?_
            rintro e w3 ⟨rfl, k3⟩
            obtain ⟨V6, hV6⟩ : ∃ V6, w3.alloc (.cells #[.int .i64 ra, .int .i64 rb] 58) = V6 := ⟨_, rfl⟩
            have k6 : Keep [] wr V6 := by rw [← hV6]; exact k3.alloc _
            have d6 : Blk V6 w3.heap.size 58 #[.int .i64 ra, .int .i64 rb] := by rw [← hV6]; exact Blk.new _ _ _
            have hd6 := Lib.hid d6.cellsAt
            have HV6 := Lib.hid hV6
            have KR6 := KR.then k6
            have K6 := hK.trans k6 (fun y hy hlt => by simp at hy)
            have hB : V.heap.size ≤ V6.heap.size := K6.size
            obtain ⟨vs, A, cp, E, ce, h1, h2, h3, h4, h5⟩ := hAd.keep0 k6
            have hz1 := HZ1.out
            have hz0 := HZ0.out
            clear hV6 k6 k3 HEk d6 hAd
            cases s with
            | false =>
              have HX : Hid (admM x = (noCrt, (k : Int), 190)) := HA2.out HNM.out k (firstNot_some hlt (by show (edgeM x k).2 = false; rw [hem]) hF)
              go_wp2_with (first | rw [HV6.out] | (refine stop_store 54 (.tmp 2) (.tmp 66) rfl ?_))
              constructor
              refine wpList_store_all rfl 54 (.tmp 2) (.tmp 66) rfl rfl rfl (vs := [.slice none 0 0, .slice none 0 0]) agg_cert.2 (HB1 V6 KR6).out (by simp [Value.oneCell']) ?_ ?_
              · rfl
              intro wz dz kz
              go_wp2
              refine bodyPost_ret (results_cell_two rfl _ rfl rfl rfl dz agg_cert) rfl ?_
              exact ⟨noV, by rw [HX.out]; rfl, fun _ _ _ _ => by rw [HX.out]; exact crtAt_no _, (HK0.out.then KR6).trans kz (fun y hy hlt => by simp at hy; omega)⟩
            | true =>
              have q0 := h2.cell 1
              simp at q0
              go_wp2_with (first
                | rw [HV6.out]
                | (refine wpList_load_agg rfl 58 (.tmp 13) rfl rfl (cs := [.int .i64 ra, .int .i64 rb]) agg_span hd6.out ?_)
                | (at_builtin; refine wpList_append_one rfl (.tmp 69) (.tmp 71) 52 rfl slice_spans h5 rfl rfl (us := [.int .i64 ra, .int .i64 rb]) rfl (by simp [Value.oneCell']) hB (by omega) (by unfold maxLen; omega) ?_; intro v' w6 hown hk6 hat; obtain ⟨A', c', rfl⟩ := own_shape hown; have hb6 := h2.keep hk6 (by simpa using own_blk_ne h5 h2 (by decide)); have hc6 := hb6.cell 1; have hf6 := hb6.frozen 1; simp at hc6))
              obtain ⟨ad, kd⟩ := adm_edge h1 h2 h3 h4 h5 hk6 (by rw [hem]; exact hown)
              have hlt' := fun z hz => (h5.lt z (by simpa using hz)).1
              go_roundw
              case rel => exact ⟨k + 1, by omega, by go_num, ad, K6.trans kd (fun y hy hl => by
                rcases List.mem_cons.1 hy with rfl | hy
                · simp
                · have := hlt' y (by simpa using hy); omega), fun i hi => by
                by_cases hik : i < k
                · exact hF i hik
                · obtain rfl : i = k := by omega
                  rw [hem]⟩
              case measure => simp [intOf] <;> omega
          · obtain rfl : k = x.edges.length := by omega
            have HX : Hid (admM x = (fullCrt x, 0, 0)) := HA3.out HNM.out (firstNot_none hF)
            obtain ⟨cv, cb, hcr⟩ := hAd.crt hn8 he24
            have hcb := Lib.hid cb.cellsAt
            have hz1 := HZ1.out
            have hz0 := HZ0.out
            have HCL : Hid ((crtCells cv (fullCrt x)).length = 2) := show _ = _ from rfl
            have HON : Hid (∀ u ∈ crtCells cv (fullCrt x), u.oneCell' = true) := by intro u hu; simp [crtCells] at hu; rcases hu with rfl | rfl <;> rfl
            clear cb hAd hF
            generalize hcc : crtCells cv (fullCrt x) = cc at *
            go_wp2_with (first
              | (refine wpList_load_agg rfl 54 (.tmp 7) rfl rfl (cs := cc) (by rw [HCL.out]; exact agg_cert) hcb.out ?_)
              | (refine stop_store 54 (.tmp 2) (.tmp 75) rfl ?_))
            constructor
            refine wpList_store_all rfl 54 (.tmp 2) (.tmp 75) rfl rfl rfl (vs := cc) (by rw [HCL.out]; exact agg_cert.2) (HB1 wr KR).out HON.out ?_ ?_
            · rw [HCL.out]; rfl
            intro wz dz kz
            go_wp2
            refine bodyPost_ret (results_cell_two rfl _ rfl rfl rfl dz (by rw [HCL.out]; exact agg_cert)) rfl ?_
            exact ⟨cv, by rw [HX.out, ← hcc]; rfl, fun F w2 k hF => by rw [HX.out]; exact hcr (F ++ [w.heap.size + 1]) w2 ((kz.mono (fun y hy _ => List.mem_append_right _ hy)).trans k (fun y hy _ => List.mem_append_left _ hy)) (fun y hy => by have := HZV.out; rcases List.mem_append.1 hy with hy | hy; have := hF y hy; omega; simp at hy; omega), (HK0.out.then KR).trans kz (fun y hy hlt => by simp at hy; omega)⟩
  · have hcn : (c2 != 0) = true := by simpa using hc
    have HA : Hid (admM x = (noCrt, c1, c2)) := HA0.out hc
    clear HA0 HA1 HA2 HA3 hso heo hpo hnn hc HTa HMo HEd
    go_enter Tryd.func13, Tryd.ntmps13
    go_wp2_with (first
      | rw [HW.out]
      | (refine wpList_load_agg rfl 26 (.tmp 1) rfl rfl (cs := il) (by rw [HIC.out]; exact agg_image) (HCI _ (Keep.refl _ _)).out ?_)
      | (refine HC.out.mono ?_; rintro e w1 ⟨rfl, k1⟩; rw [chkRes])
      | (refine stop_store 54 (.tmp 2) (.tmp 22) rfl ?_))
    constructor
    refine wpList_store_all rfl 54 (.tmp 2) (.tmp 22) rfl rfl rfl (vs := [.slice none 0 0, .slice none 0 0]) agg_cert.2 (HB1 w1 k1).out (by simp [Value.oneCell']) ?_ ?_
    · rfl
    intro wz dz kz
    go_wp2
    refine bodyPost_ret (results_cell_two rfl _ rfl rfl rfl dz agg_cert) rfl ?_
    exact ⟨noV, by rw [HA.out]; rfl, fun _ _ _ _ => by rw [HA.out]; exact crtAt_no _, (HK0.out.then k1).trans kz (fun y hy hlt => by simp at hy; omega)⟩
theorem admit_any (v : ImgV) (x : Img) (w : World) (hTb : Tab w) (h : ImgAt w v x) :
    Calls Tryd.prog 13 #[.agg (imgCells v x).toArray] w (RetAdm w (admM x)) :=
  (admitF_any v x w hTb h).mono (fun _ w' ⟨v, h1, h2, h3⟩ => ⟨v, h1, h2 [] w' (Keep.refl _ _) (by simp), h3⟩)
end Go.Proofs.YteflgdnekflbbaaDoor
