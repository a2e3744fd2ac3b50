/- codec's reader: the next word; no condition. -/
import Derived.Test.YtfgjcjpemlgnmaaDoorCwLaw
import Derived.Test.YtfgjcjpemlgnmaaDoorCrP
namespace Go.Proofs.YtfgjcjpemlgnmaaDoor
open Go.RowKit

/-- Where the reader stands. -/
abbrev RdrAt (w : World) (R : Nat) (A : Option Addr) (c : Nat) (l : List Int) (st : Nat × Bool) : Prop := Blk w R 74 #[.slice A l.length c, .int .i64 (st.1 : Int), .bool st.2]
/-- The words lie where they lie, whatever the reader does. -/
def Words (w : World) (R : Nat) (A : Option Addr) (l : List Int) : Prop := (∀ w', Keep [R] w w' → Reads w' 1 A l.length (uw l)) ∧ (∀ n ∈ l, 0 ≤ n ∧ n < 4294967296) ∧ l.length ≤ 100000
theorem Words.keep {w w' : World} {R : Nat} {A : Option Addr} {l : List Int} (h : Words w R A l) (k : Keep [R] w w') : Words w' R A l := ⟨fun w2 k2 => h.1 w2 (k.trans k2 (fun _ hx _ => hx)), h.2⟩

set_option maxRecDepth 100000 in
set_option maxHeartbeats 1000000 in
theorem next_any (R : Nat) (A : Option Addr) (c : Nat) (l : List Int) (p : Nat) (bad : Bool) (most : Int) (w : World) (hb : RdrAt w R A c l (p, bad)) (hW : Words w R A l) (hp : p ≤ l.length) :
    Calls Tryd.prog 23 #[.pointer (some ⟨R, 0, none⟩), .int .i64 most] w fun e w' =>
      e = .returned (.int .i64 (nextM l (p, bad) most).1) ∧ RdrAt w' R A c l (nextM l (p, bad) most).2 ∧ Keep [R] w w' := by
  have hlen := hW.2.2
  have hF0 : ∀ w', Keep [] w w' → w'.cell? ⟨R, 0, none⟩ = some (.slice A l.length c) ∧ w'.cell? ⟨R, 1, none⟩ = some (.int .i64 (p : Int)) ∧ w'.cell? ⟨R, 2, none⟩ = some (.bool bad) := fun w' k => by
    have := hb.keep k (by simp)
    exact ⟨by rw [this.cell]; rfl, by rw [this.cell]; rfl, by rw [this.cell]; rfl⟩
  have hfr := hb.frozen 2
  have hfr1 := hb.frozen 1
  cases hbad : bad
  · subst hbad
    by_cases hlt : p < l.length
    · obtain ⟨b, o, hA, hbw, hc⟩ := uw_at (hW.1 w (Keep.refl _ _)) (by omega)
      subst hA
      have hcp := hc p hlt
      obtain ⟨hn0, hn1⟩ := hW.2.1 l[p] (List.getElem_mem hlt)
      have hF : ∀ w', Keep [] w w' → w'.cell? ⟨R, 0, none⟩ = some (.slice (some ⟨b, o, none⟩) l.length c) ∧ w'.cell? ⟨R, 1, none⟩ = some (.int .i64 (p : Int)) ∧ w'.cell? ⟨R, 2, none⟩ = some (.bool false) ∧ w'.cell? ⟨b, o + p, none⟩ = some (.int .u32 l[p]) := fun w' k => by
        obtain ⟨h1, h2, h3⟩ := hF0 w' k
        exact ⟨h1, h2, h3, (k.cell (p := ⟨b, o + p, none⟩) hbw (by simp)).trans hcp⟩
      have hpl : ((p : Int) == (l.length : Int)) = false := by simp; omega
      have hp0 : (0 : Int) ≤ (p : Int) := by omega
      have hp1 : (p : Int) < (l.length : Int) := by omega
      have hM : Hid (nextM l (p, false) most = if most < l[p] then (0, p, true) else (l[p], p + 1, false)) := by
        show _ = _
        unfold nextM
        rw [if_neg (by simp)]
        simp only [List.getElem?_eq_getElem hlt]
      have HWW := Lib.hid hW
      have HB := Lib.hid hb
      by_cases hm : most < l[p]
      · have HM : Hid (nextM l (p, false) most = (0, p, true)) := by show _ = _; rw [hM.out, if_pos hm]
        have hmd : decide (most < l[p]) = true := decide_eq_true hm
        have hWr : IntKind.i64.wrap l[p] = l[p] := IntWalk.i64_in _ (by omega)
        clear hc hM hm hF0 hW hb
        generalize l[p] = n at *
        go_enter Tryd.func23, Tryd.ntmps23
        go_wp2
        refine wp_region_flow (Keep [] w) rfl (by kernel_rfl) (Keep.refl _ _).drew ?_
        repeat (first | (refine fl_off (by rfl) ?_; simp only [Act.put, List.setIfInBounds_toArray, List.set_cons_zero, List.set_cons_succ]) | (refine fl_val (v := ?_) (by rfl) ?_ ?_; rotate_left; (intro w' hS; obtain ⟨f1,f2,f3,f4⟩ := hF w' hS; go_simp; with_reducible rfl); simp only [Act.put, List.setIfInBounds_toArray, List.set_cons_zero, List.set_cons_succ]))
        refine fl_nil ?_
        intro w' hS
        have bq := HB.out.keep hS (by simp)
        have c2 := bq.cell 2
        have f2 := bq.frozen 2
        simp at c2
        clear hF hWr hmd
        go_wp2
        go_ret
        exact ⟨by rw [HM.out]; rfl, by rw [HM.out]; exact bq.set_ 2 (.bool true), (hS.mono (by simp)).trans (keep_set w' R 2 (.bool true)) (fun y hy _ => hy)⟩
      · have HM : Hid (nextM l (p, false) most = (l[p], p + 1, false)) := by show _ = _; rw [hM.out, if_neg hm]
        have hmd : decide (most < l[p]) = false := decide_eq_false hm
        have hWr : IntKind.i64.wrap l[p] = l[p] := IntWalk.i64_in _ (by omega)
        have hG : ∀ w2, Keep [R] w w2 → RdrAt w2 R (some ⟨b, o, none⟩) c l (p + 1, false) → ∀ w', Keep [] w2 w' → w'.cell? ⟨R, 0, none⟩ = some (.slice (some ⟨b, o, none⟩) l.length c) ∧ w'.cell? ⟨R, 1, none⟩ = some (.int .i64 ((p : Int) + 1)) ∧ w'.cell? ⟨b, o + p, none⟩ = some (.int .u32 l[p]) := fun w2 k2 h2 w' k => by
          have h3 := h2.keep k (by simp)
          obtain ⟨b', o', hA', hbw', hc'⟩ := uw_at (hW.1 w' (k2.trans k (by simp))) (by omega)
          cases hA'
          exact ⟨by rw [h3.cell]; rfl, by rw [h3.cell]; rfl, hc' p hlt⟩
        have HG := Lib.hid hG
        clear hc hM hm hF0 hW hb hG
        generalize l[p] = n at *
        go_enter Tryd.func23, Tryd.ntmps23
        go_wp2
        refine wp_region_flow (Keep [] w) rfl (by kernel_rfl) (Keep.refl _ _).drew ?_
        repeat (first | (refine fl_off (by rfl) ?_; simp only [Act.put, List.setIfInBounds_toArray, List.set_cons_zero, List.set_cons_succ]) | (refine fl_val (v := ?_) (by rfl) ?_ ?_; rotate_left; (intro w' hS; obtain ⟨f1,f2,f3,f4⟩ := hF w' hS; go_simp; with_reducible rfl); simp only [Act.put, List.setIfInBounds_toArray, List.set_cons_zero, List.set_cons_succ]))
        refine fl_nil ?_
        intro w' hS
        have bq := HB.out.keep hS (by simp)
        have c1 := bq.cell 1
        have f1 := bq.frozen 1
        simp at c1
        have hS2 : Keep [R] w _ := (hS.mono (by simp)).trans (keep_set w' R 1 (.int .i64 ((p : Int) + 1))) (fun y hy _ => hy)
        have bq2 : RdrAt (w'.setCell ⟨R, 1, none⟩ (.int .i64 ((p : Int) + 1))) R (some ⟨b, o, none⟩) c l (p + 1, false) := bq.set_ 1 (.int .i64 ((p : Int) + 1))
        have hF2 := HG.out _ hS2 bq2
        clear hF hmd bq
        go_wp2
        refine wp_region_flow (Keep [] (w'.setCell ⟨R, 1, none⟩ (.int .i64 ((p : Int) + 1)))) rfl (by kernel_rfl) (Keep.refl _ _).drew ?_
        have hsub : wrap64 (p : Int) = (p : Int) := by unfold wrap64; omega
        have hsub2 : IntKind.i64.wrap (p : Int) = (p : Int) := IntWalk.i64_in _ (by omega)
        repeat (first | (refine fl_off (by rfl) ?_; simp only [Act.put, List.setIfInBounds_toArray, List.set_cons_zero, List.set_cons_succ]) | (refine fl_val (v := ?_) (by rfl) ?_ ?_; rotate_left; (intro w' hS; obtain ⟨g1,g2,g3⟩ := hF2 w' hS; go_simp; with_reducible rfl); simp only [Act.put, List.setIfInBounds_toArray, List.set_cons_zero, List.set_cons_succ]))
        refine fl_nil ?_
        intro w3 hS3
        have b3 := bq2.keep hS3 (by simp)
        have k3 := hS2.trans hS3 (by simp)
        clear hF2 HG bq2
        go_wp2
        go_ret
        exact ⟨by rw [HM.out]; rfl, by rw [HM.out]; exact b3, k3⟩
    · obtain rfl : p = l.length := by omega
      have HM : Hid (nextM l (l.length, false) most = (0, l.length, true)) := by
        show _ = _
        unfold nextM
        rw [if_neg (by simp)]
        simp
      have HB := Lib.hid hb
      clear hW hb hp hlt
      go_enter Tryd.func23, Tryd.ntmps23
      go_wp2
      refine wp_region_flow (Keep [] w) rfl (by kernel_rfl) (Keep.refl _ _).drew ?_
      repeat (first | (refine fl_off (by rfl) ?_; simp only [Act.put, List.setIfInBounds_toArray, List.set_cons_zero, List.set_cons_succ]) | (refine fl_val (v := ?_) (by rfl) ?_ ?_; rotate_left; (intro w' hS; obtain ⟨f1,f2,f3⟩ := hF0 w' hS; go_simp; with_reducible rfl); simp only [Act.put, List.setIfInBounds_toArray, List.set_cons_zero, List.set_cons_succ]))
      refine fl_nil ?_
      intro w' hS
      have bq := HB.out.keep hS (by simp)
      have c2 := bq.cell 2
      have f2 := bq.frozen 2
      simp at c2
      clear hF0
      go_wp2
      go_ret
      exact ⟨by rw [HM.out]; rfl, by rw [HM.out]; exact bq.set_ 2 (.bool true), (hS.mono (by simp)).trans (keep_set w' R 2 (.bool true)) (fun y hy _ => hy)⟩
  · subst hbad
    have HM : Hid (nextM l (p, true) most = (0, p, true)) := by
      show _ = _
      unfold nextM
      rw [if_pos rfl]
    have HB := Lib.hid hb
    clear hW hb hp
    go_enter Tryd.func23, Tryd.ntmps23
    go_wp2
    refine wp_region_flow (Keep [] w) rfl (by kernel_rfl) (Keep.refl _ _).drew ?_
    repeat (first | (refine fl_off (by rfl) ?_; simp only [Act.put, List.setIfInBounds_toArray, List.set_cons_zero, List.set_cons_succ]) | (refine fl_val (v := ?_) (by rfl) ?_ ?_; rotate_left; (intro w' hS; obtain ⟨f1,f2,f3⟩ := hF0 w' hS; go_simp; with_reducible rfl); simp only [Act.put, List.setIfInBounds_toArray, List.set_cons_zero, List.set_cons_succ]))
    refine fl_nil ?_
    intro w' hS
    have bq := HB.out.keep hS (by simp)
    have c2 := bq.cell 2
    have f2 := bq.frozen 2
    simp at c2
    clear hF0
    go_wp2
    go_ret
    exact ⟨by rw [HM.out]; rfl, by rw [HM.out]; exact bq.set_ 2 (.bool true), (hS.mono (by simp)).trans (keep_set w' R 2 (.bool true)) (fun y hy _ => hy)⟩
end Go.Proofs.YtfgjcjpemlgnmaaDoor
