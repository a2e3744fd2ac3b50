/- A task's words, handed on one by one; no condition. -/
import Derived.Test.YtfgjcjpemlgnmaaDoorCwUses
namespace Go.Proofs.YtfgjcjpemlgnmaaDoor
open Go.RowKit
attribute [local go_sem] Oper.semAt_some

/-- The function's own boxes: the task, the body, the result. -/
def SB (W : World) (l : Nat) (t : Tsk) (w : World) : Prop := Blk w W.heap.size 57 (tskCells t).toArray ∧ Blk w (W.heap.size + 1) 88 #[.func (.yield l) #[] #[]] ∧ Blk w (W.heap.size + 2) 4 #[.bool false]
theorem sb_cells {W : World} {l : Nat} {t : Tsk} {w : World} (h : SB W l t w) : w.cell? ⟨W.heap.size + 1, 0, none⟩ = some (.func (.yield l) #[] #[]) ∧ w.cell? ⟨W.heap.size, 0, none⟩ = some (.int .i64 t.per) ∧ w.cell? ⟨W.heap.size, 1, none⟩ = some (.int .i64 t.ded) ∧ w.cell? ⟨W.heap.size, 2, none⟩ = some (.int .i64 t.cost) :=
  ⟨by rw [h.2.1.cell]; rfl, by rw [h.1.cell]; rfl, by rw [h.1.cell]; rfl, by rw [h.1.cell]; rfl⟩

set_option maxRecDepth 100000 in
set_option maxHeartbeats 1000000 in
theorem task_hands (t : Tsk) (hl8 : t.lon.length = 8) (l B0 B2 : Nat) (J Jx : List Int → World → Prop) (W : World) (hB0 : B0 ≤ W.heap.size) (hB2 : B2 ≤ W.heap.size) {lb : Nat} (hlb : lb ≤ W.heap.size) (hJ : OwnT W.heap.size (LoW lb) J) (hJx : OwnT W.heap.size (LoW lb) Jx)
    (hY : Rounds l (KpW B0 B2) (wordsT t) J Jx) (h0 : J [] W) : Calls Tryd.prog 37 #[.agg (tskCells t).toArray, .func (.yield l) #[] #[]] W (Handed (KpW B0 B2) (wordsT t) J Jx W) := by
  have hUs := fun w => Lib.hid (cuses_any t w hl8)
  rw [← callsIn_wide (n := 9)]
  refine callsIn_of_wp_marks Tryd.func37 rfl trivial ?_ rfl
  simp only [Tryd.ntmps37, List.size_toArray, List.length_cons, List.length_nil, Nat.reduceAdd, Nat.reduceSub, Array.replicate_succ, Array.replicate_zero, List.push_toArray, List.append_toArray, List.nil_append, List.cons_append]
  gi_wp2
  obtain ⟨W0, hW0⟩ : ∃ W0, ((W.alloc (.cells (tskCells t).toArray 57)).alloc (.cells #[.func (.yield l) #[] #[]] 88)).alloc (.cells #[.bool false] 4) = W0 := ⟨_, rfl⟩
  have hsz : W0.heap.size = W.heap.size + 3 := by rw [← hW0]; simp
  have c0 : Blk W0 W.heap.size 57 (tskCells t).toArray := by rw [← hW0]; exact ((Blk.new _ _ _).alloc _).alloc _
  have c1 : Blk W0 (W.heap.size + 1) 88 #[.func (.yield l) #[] #[]] := by
    rw [← hW0]; have := Blk.new (W.alloc (.cells (tskCells t).toArray 57)) 88 #[.func (.yield l) #[] #[]]; rw [World.size_alloc] at this; exact this.alloc _
  have c2 : Blk W0 (W.heap.size + 2) 4 #[.bool false] := by
    rw [← hW0]; have := Blk.new ((W.alloc (.cells (tskCells t).toArray 57)).alloc (.cells #[.func (.yield l) #[] #[]] 88)) 4 #[.bool false]; rw [World.size_alloc, World.size_alloc] at this; exact this
  have K0 : Keep [] W W0 := by rw [← hW0]; exact (((Keep.refl _ W).alloc _).alloc _).alloc _
  have k0 : KpW B0 B2 W W0 := (KpW.refl W).step K0 (by simp) hB0
  simp only [hW0]
  clear hW0
  have h00 := hJ.keep0 h0 K0
  have hSK : ∀ {w w' : World}, SB W l t w → KpW B0 B2 w w' → SB W l t w' := fun hs k => ⟨k.blk hs.1 (by decide), k.blk hs.2.1 (by decide), k.blk hs.2.2 (by decide)⟩
  have hSF := fun w' (hs : SB W l t w') => sb_cells hs
  have HTL := tskCells_len hl8
  have HUW : Hid (IntKind.i64.wrap (usesB t.lon 8 : Nat) = (usesB t.lon 8 : Nat)) := by
    have := usesB_lt t.lon 8
    exact IntWalk.i64_in _ (by omega)
  refine ai_start (SB W l t) rfl rfl ⟨c0, c1, c2⟩ (fun hND hS hPan => ?_)
  have j0 := hJ.keep0 h00 (Keep.refl _ W0).drew
  have k1 : KpW B0 B2 W W0.drew := k0.step (F := []) (Keep.refl _ W0).drew (by simp) hB0
  clear h00 k0 c0 c1 c2 K0 h0
  generalize W0.drew = w1 at *
  (refine ai_val (v := ?_) 0 rfl open_wide hND (by kernel_rfl) (by kernel_rfl) (by kernel_rfl) (by rfl) hPan ?_ hS ?_; rotate_left; (intro w' hSw; obtain ⟨f0, f1, f2, f3⟩ := hSF w' hSw; go_simp; try with_reducible rfl); simp only [Act.put, List.setIfInBounds_toArray, List.set_cons_zero, List.set_cons_succ])
  (refine ai_val (v := ?_) 1 rfl open_wide hND (by kernel_rfl) (by kernel_rfl) (by kernel_rfl) (by rfl) hPan ?_ hS ?_; rotate_left; (intro w' hSw; obtain ⟨f0, f1, f2, f3⟩ := hSF w' hSw; go_simp; try with_reducible rfl); simp only [Act.put, List.setIfInBounds_toArray, List.set_cons_zero, List.set_cons_succ])
  (refine ai_val (v := ?_) 2 rfl open_wide hND (by kernel_rfl) (by kernel_rfl) (by kernel_rfl) (by rfl) hPan ?_ hS ?_; rotate_left; (intro w' hSw; obtain ⟨f0, f1, f2, f3⟩ := hSF w' hSw; go_simp; try with_reducible rfl); simp only [Act.put, List.setIfInBounds_toArray, List.set_cons_zero, List.set_cons_succ])
  refine ai_one 3 (by kernel_rfl) (oi_yield 3 rfl open_wide hND (by rfl) rfl rfl (vs := #[.int .i64 t.per]) (by simp only [List.map_toArray, List.map_cons, List.map_nil]; rfl) (hY.next (9 - 1) [] (t.ded :: t.cost :: (usesB t.lon 8 : Int) :: (usesK t.lon 8).map Prod.snd) _ rfl j0) rfl ?_)
  rintro e w2 (⟨rfl, j1, kr⟩ | ⟨rfl, jx, kr⟩)
  rotate_left
  · refine ⟨_, rfl, hSK hS kr, ?_⟩
    replace hS := hSK hS kr
    (simp only [Act.put, List.setIfInBounds_toArray, List.set_cons_zero, List.set_cons_succ])
    (refine ai_val (v := ?_) 4 rfl open_wide hND (by kernel_rfl) (by kernel_rfl) (by kernel_rfl) (by rfl) hPan ?_ hS ?_; rotate_left; (intro w' hSw; go_simp; try with_reducible rfl); simp only [Act.put, List.setIfInBounds_toArray, List.set_cons_zero, List.set_cons_succ])
    (refine ai_val (v := ?_) 5 rfl open_wide hND (by kernel_rfl) (by kernel_rfl) (by kernel_rfl) (by rfl) hPan ?_ hS ?_; rotate_left; (intro w' hSw; go_simp; try with_reducible rfl); simp only [Act.put, List.setIfInBounds_toArray, List.set_cons_zero, List.set_cons_succ])
    (refine ai_off 6 rfl open_wide hND (by kernel_rfl) (by kernel_rfl) (by kernel_rfl) (by rfl) hPan hS ?_; simp only [Act.put, List.setIfInBounds_toArray, List.set_cons_zero, List.set_cons_succ])
    (refine ai_off 7 rfl open_wide hND (by kernel_rfl) (by kernel_rfl) (by kernel_rfl) (by rfl) hPan hS ?_; simp only [Act.put, List.setIfInBounds_toArray, List.set_cons_zero, List.set_cons_succ])
    (refine ai_off 8 rfl open_wide hND (by kernel_rfl) (by kernel_rfl) (by kernel_rfl) (by rfl) hPan hS ?_; simp only [Act.put, List.setIfInBounds_toArray, List.set_cons_zero, List.set_cons_succ])
    (refine ai_off 9 rfl open_wide hND (by kernel_rfl) (by kernel_rfl) (by kernel_rfl) (by rfl) hPan hS ?_; simp only [Act.put, List.setIfInBounds_toArray, List.set_cons_zero, List.set_cons_succ])
    (refine ai_off 10 rfl open_wide hND (by kernel_rfl) (by kernel_rfl) (by kernel_rfl) (by rfl) hPan hS ?_; simp only [Act.put, List.setIfInBounds_toArray, List.set_cons_zero, List.set_cons_succ])
    (refine ai_val (v := ?_) 11 rfl open_wide hND (by kernel_rfl) (by kernel_rfl) (by kernel_rfl) (by rfl) hPan ?_ hS ?_; rotate_left; (intro w' hSw; go_simp; try with_reducible rfl); simp only [Act.put, List.setIfInBounds_toArray, List.set_cons_zero, List.set_cons_succ])
    (refine ai_val (v := ?_) 12 rfl open_wide hND (by kernel_rfl) (by kernel_rfl) (by kernel_rfl) (by rfl) hPan ?_ hS ?_; rotate_left; (intro w' hSw; go_simp; try with_reducible rfl); simp only [Act.put, List.setIfInBounds_toArray, List.set_cons_zero, List.set_cons_succ])
    (refine ai_off 13 rfl open_wide hND (by kernel_rfl) (by kernel_rfl) (by kernel_rfl) (by rfl) hPan hS ?_; simp only [Act.put, List.setIfInBounds_toArray, List.set_cons_zero, List.set_cons_succ])
    (refine ai_off 14 rfl open_wide hND (by kernel_rfl) (by kernel_rfl) (by kernel_rfl) (by rfl) hPan hS ?_; simp only [Act.put, List.setIfInBounds_toArray, List.set_cons_zero, List.set_cons_succ])
    (refine ai_off 15 rfl open_wide hND (by kernel_rfl) (by kernel_rfl) (by kernel_rfl) (by rfl) hPan hS ?_; simp only [Act.put, List.setIfInBounds_toArray, List.set_cons_zero, List.set_cons_succ])
    (refine ai_off 16 rfl open_wide hND (by kernel_rfl) (by kernel_rfl) (by kernel_rfl) (by rfl) hPan hS ?_; simp only [Act.put, List.setIfInBounds_toArray, List.set_cons_zero, List.set_cons_succ])
    (refine ai_off 17 rfl open_wide hND (by kernel_rfl) (by kernel_rfl) (by kernel_rfl) (by rfl) hPan hS ?_; simp only [Act.put, List.setIfInBounds_toArray, List.set_cons_zero, List.set_cons_succ])
    (refine ai_val (v := ?_) 18 rfl open_wide hND (by kernel_rfl) (by kernel_rfl) (by kernel_rfl) (by rfl) hPan ?_ hS ?_; rotate_left; (intro w' hSw; go_simp; try with_reducible rfl); simp only [Act.put, List.setIfInBounds_toArray, List.set_cons_zero, List.set_cons_succ])
    (refine ai_val (v := ?_) 19 rfl open_wide hND (by kernel_rfl) (by kernel_rfl) (by kernel_rfl) (by rfl) hPan ?_ hS ?_; rotate_left; (intro w' hSw; go_simp; try with_reducible rfl); simp only [Act.put, List.setIfInBounds_toArray, List.set_cons_zero, List.set_cons_succ])
    (refine ai_off 20 rfl open_wide hND (by kernel_rfl) (by kernel_rfl) (by kernel_rfl) (by rfl) hPan hS ?_; simp only [Act.put, List.setIfInBounds_toArray, List.set_cons_zero, List.set_cons_succ])
    (refine ai_off 21 rfl open_wide hND (by kernel_rfl) (by kernel_rfl) (by kernel_rfl) (by rfl) hPan hS ?_; simp only [Act.put, List.setIfInBounds_toArray, List.set_cons_zero, List.set_cons_succ])
    (refine ai_off 22 rfl open_wide hND (by kernel_rfl) (by kernel_rfl) (by kernel_rfl) (by rfl) hPan hS ?_; simp only [Act.put, List.setIfInBounds_toArray, List.set_cons_zero, List.set_cons_succ])
    (refine ai_off 23 rfl open_wide hND (by kernel_rfl) (by kernel_rfl) (by kernel_rfl) (by rfl) hPan hS ?_; simp only [Act.put, List.setIfInBounds_toArray, List.set_cons_zero, List.set_cons_succ])
    (refine ai_off 24 rfl open_wide hND (by kernel_rfl) (by kernel_rfl) (by kernel_rfl) (by rfl) hPan hS ?_; simp only [Act.put, List.setIfInBounds_toArray, List.set_cons_zero, List.set_cons_succ])
    (refine ai_off 25 rfl open_wide hND (by kernel_rfl) (by kernel_rfl) (by kernel_rfl) (by rfl) hPan hS ?_; simp only [Act.put, List.setIfInBounds_toArray, List.set_cons_zero, List.set_cons_succ])
    (refine ai_val (v := ?_) 26 rfl open_wide hND (by kernel_rfl) (by kernel_rfl) (by kernel_rfl) (by rfl) hPan ?_ hS ?_; rotate_left; (intro w' hSw; go_simp; try with_reducible rfl); simp only [Act.put, List.setIfInBounds_toArray, List.set_cons_zero, List.set_cons_succ])
    refine ai_end (by kernel_rfl) ?_ _
    obtain ⟨s0, s1, s2⟩ := hS
    have cc := s2.cell 0
    have ff := s2.frozen 0
    simp at cc
    gi_wp2
    have m1 := (s2.set_ 0 (.bool false)).cell 0
    simp at m1
    exact ⟨.bool false, by simp [results, Tryd.results37, go_sem, m1], .inr ⟨rfl, _, ⟨[t.ded, t.cost, (usesB t.lon 8 : Int)] ++ (usesK t.lon 8).map Prod.snd, by simp [wordsT]⟩, hJx.set (.bool false) jx s2 rfl ⟨by omega, _, _, _, rfl, by decide⟩⟩⟩
  refine ⟨_, rfl, hSK hS kr, ?_⟩
  replace hS := hSK hS kr
  have k2 := k1.trans kr
  clear kr
  (simp only [Act.put, List.setIfInBounds_toArray, List.set_cons_zero, List.set_cons_succ])
  (refine ai_val (v := ?_) 4 rfl open_wide hND (by kernel_rfl) (by kernel_rfl) (by kernel_rfl) (by rfl) hPan ?_ hS ?_; rotate_left; (intro w' hSw; go_simp; try with_reducible rfl); simp only [Act.put, List.setIfInBounds_toArray, List.set_cons_zero, List.set_cons_succ])
  (refine ai_val (v := ?_) 5 rfl open_wide hND (by kernel_rfl) (by kernel_rfl) (by kernel_rfl) (by rfl) hPan ?_ hS ?_; rotate_left; (intro w' hSw; go_simp; try with_reducible rfl); simp only [Act.put, List.setIfInBounds_toArray, List.set_cons_zero, List.set_cons_succ])
  (refine ai_val (v := ?_) 6 rfl open_wide hND (by kernel_rfl) (by kernel_rfl) (by kernel_rfl) (by rfl) hPan ?_ hS ?_; rotate_left; (intro w' hSw; obtain ⟨f0, f1, f2, f3⟩ := hSF w' hSw; go_simp; try with_reducible rfl); simp only [Act.put, List.setIfInBounds_toArray, List.set_cons_zero, List.set_cons_succ])
  (refine ai_val (v := ?_) 7 rfl open_wide hND (by kernel_rfl) (by kernel_rfl) (by kernel_rfl) (by rfl) hPan ?_ hS ?_; rotate_left; (intro w' hSw; obtain ⟨f0, f1, f2, f3⟩ := hSF w' hSw; go_simp; try with_reducible rfl); simp only [Act.put, List.setIfInBounds_toArray, List.set_cons_zero, List.set_cons_succ])
  (refine ai_val (v := ?_) 8 rfl open_wide hND (by kernel_rfl) (by kernel_rfl) (by kernel_rfl) (by rfl) hPan ?_ hS ?_; rotate_left; (intro w' hSw; obtain ⟨f0, f1, f2, f3⟩ := hSF w' hSw; go_simp; try with_reducible rfl); simp only [Act.put, List.setIfInBounds_toArray, List.set_cons_zero, List.set_cons_succ])
  refine ai_one 9 (by kernel_rfl) (oi_yield 9 rfl open_wide hND (by rfl) rfl rfl (vs := #[.int .i64 t.ded]) (by simp only [List.map_toArray, List.map_cons, List.map_nil]; rfl) (hY.next (9 - 1) [t.per] (t.cost :: (usesB t.lon 8 : Int) :: (usesK t.lon 8).map Prod.snd) _ rfl j1) rfl ?_)
  rintro e w3 (⟨rfl, j2, kr⟩ | ⟨rfl, jx, kr⟩)
  rotate_left
  · refine ⟨_, rfl, hSK hS kr, ?_⟩
    replace hS := hSK hS kr
    (simp only [Act.put, List.setIfInBounds_toArray, List.set_cons_zero, List.set_cons_succ])
    (refine ai_val (v := ?_) 10 rfl open_wide hND (by kernel_rfl) (by kernel_rfl) (by kernel_rfl) (by rfl) hPan ?_ hS ?_; rotate_left; (intro w' hSw; go_simp; try with_reducible rfl); simp only [Act.put, List.setIfInBounds_toArray, List.set_cons_zero, List.set_cons_succ])
    (refine ai_val (v := ?_) 11 rfl open_wide hND (by kernel_rfl) (by kernel_rfl) (by kernel_rfl) (by rfl) hPan ?_ hS ?_; rotate_left; (intro w' hSw; go_simp; try with_reducible rfl); simp only [Act.put, List.setIfInBounds_toArray, List.set_cons_zero, List.set_cons_succ])
    (refine ai_val (v := ?_) 12 rfl open_wide hND (by kernel_rfl) (by kernel_rfl) (by kernel_rfl) (by rfl) hPan ?_ hS ?_; rotate_left; (intro w' hSw; go_simp; try with_reducible rfl); simp only [Act.put, List.setIfInBounds_toArray, List.set_cons_zero, List.set_cons_succ])
    (refine ai_off 13 rfl open_wide hND (by kernel_rfl) (by kernel_rfl) (by kernel_rfl) (by rfl) hPan hS ?_; simp only [Act.put, List.setIfInBounds_toArray, List.set_cons_zero, List.set_cons_succ])
    (refine ai_off 14 rfl open_wide hND (by kernel_rfl) (by kernel_rfl) (by kernel_rfl) (by rfl) hPan hS ?_; simp only [Act.put, List.setIfInBounds_toArray, List.set_cons_zero, List.set_cons_succ])
    (refine ai_off 15 rfl open_wide hND (by kernel_rfl) (by kernel_rfl) (by kernel_rfl) (by rfl) hPan hS ?_; simp only [Act.put, List.setIfInBounds_toArray, List.set_cons_zero, List.set_cons_succ])
    (refine ai_off 16 rfl open_wide hND (by kernel_rfl) (by kernel_rfl) (by kernel_rfl) (by rfl) hPan hS ?_; simp only [Act.put, List.setIfInBounds_toArray, List.set_cons_zero, List.set_cons_succ])
    (refine ai_off 17 rfl open_wide hND (by kernel_rfl) (by kernel_rfl) (by kernel_rfl) (by rfl) hPan hS ?_; simp only [Act.put, List.setIfInBounds_toArray, List.set_cons_zero, List.set_cons_succ])
    (refine ai_val (v := ?_) 18 rfl open_wide hND (by kernel_rfl) (by kernel_rfl) (by kernel_rfl) (by rfl) hPan ?_ hS ?_; rotate_left; (intro w' hSw; go_simp; try with_reducible rfl); simp only [Act.put, List.setIfInBounds_toArray, List.set_cons_zero, List.set_cons_succ])
    (refine ai_val (v := ?_) 19 rfl open_wide hND (by kernel_rfl) (by kernel_rfl) (by kernel_rfl) (by rfl) hPan ?_ hS ?_; rotate_left; (intro w' hSw; go_simp; try with_reducible rfl); simp only [Act.put, List.setIfInBounds_toArray, List.set_cons_zero, List.set_cons_succ])
    (refine ai_off 20 rfl open_wide hND (by kernel_rfl) (by kernel_rfl) (by kernel_rfl) (by rfl) hPan hS ?_; simp only [Act.put, List.setIfInBounds_toArray, List.set_cons_zero, List.set_cons_succ])
    (refine ai_off 21 rfl open_wide hND (by kernel_rfl) (by kernel_rfl) (by kernel_rfl) (by rfl) hPan hS ?_; simp only [Act.put, List.setIfInBounds_toArray, List.set_cons_zero, List.set_cons_succ])
    (refine ai_off 22 rfl open_wide hND (by kernel_rfl) (by kernel_rfl) (by kernel_rfl) (by rfl) hPan hS ?_; simp only [Act.put, List.setIfInBounds_toArray, List.set_cons_zero, List.set_cons_succ])
    (refine ai_off 23 rfl open_wide hND (by kernel_rfl) (by kernel_rfl) (by kernel_rfl) (by rfl) hPan hS ?_; simp only [Act.put, List.setIfInBounds_toArray, List.set_cons_zero, List.set_cons_succ])
    (refine ai_off 24 rfl open_wide hND (by kernel_rfl) (by kernel_rfl) (by kernel_rfl) (by rfl) hPan hS ?_; simp only [Act.put, List.setIfInBounds_toArray, List.set_cons_zero, List.set_cons_succ])
    (refine ai_off 25 rfl open_wide hND (by kernel_rfl) (by kernel_rfl) (by kernel_rfl) (by rfl) hPan hS ?_; simp only [Act.put, List.setIfInBounds_toArray, List.set_cons_zero, List.set_cons_succ])
    (refine ai_val (v := ?_) 26 rfl open_wide hND (by kernel_rfl) (by kernel_rfl) (by kernel_rfl) (by rfl) hPan ?_ hS ?_; rotate_left; (intro w' hSw; go_simp; try with_reducible rfl); simp only [Act.put, List.setIfInBounds_toArray, List.set_cons_zero, List.set_cons_succ])
    refine ai_end (by kernel_rfl) ?_ _
    obtain ⟨s0, s1, s2⟩ := hS
    have cc := s2.cell 0
    have ff := s2.frozen 0
    simp at cc
    gi_wp2
    have m1 := (s2.set_ 0 (.bool false)).cell 0
    simp at m1
    exact ⟨.bool false, by simp [results, Tryd.results37, go_sem, m1], .inr ⟨rfl, _, ⟨[t.cost, (usesB t.lon 8 : Int)] ++ (usesK t.lon 8).map Prod.snd, by simp [wordsT]⟩, hJx.set (.bool false) jx s2 rfl ⟨by omega, _, _, _, rfl, by decide⟩⟩⟩
  refine ⟨_, rfl, hSK hS kr, ?_⟩
  replace hS := hSK hS kr
  have k3 := k2.trans kr
  clear kr
  (simp only [Act.put, List.setIfInBounds_toArray, List.set_cons_zero, List.set_cons_succ])
  (refine ai_val (v := ?_) 10 rfl open_wide hND (by kernel_rfl) (by kernel_rfl) (by kernel_rfl) (by rfl) hPan ?_ hS ?_; rotate_left; (intro w' hSw; go_simp; try with_reducible rfl); simp only [Act.put, List.setIfInBounds_toArray, List.set_cons_zero, List.set_cons_succ])
  (refine ai_val (v := ?_) 11 rfl open_wide hND (by kernel_rfl) (by kernel_rfl) (by kernel_rfl) (by rfl) hPan ?_ hS ?_; rotate_left; (intro w' hSw; go_simp; try with_reducible rfl); simp only [Act.put, List.setIfInBounds_toArray, List.set_cons_zero, List.set_cons_succ])
  (refine ai_val (v := ?_) 12 rfl open_wide hND (by kernel_rfl) (by kernel_rfl) (by kernel_rfl) (by rfl) hPan ?_ hS ?_; rotate_left; (intro w' hSw; go_simp; try with_reducible rfl); simp only [Act.put, List.setIfInBounds_toArray, List.set_cons_zero, List.set_cons_succ])
  (refine ai_val (v := ?_) 13 rfl open_wide hND (by kernel_rfl) (by kernel_rfl) (by kernel_rfl) (by rfl) hPan ?_ hS ?_; rotate_left; (intro w' hSw; obtain ⟨f0, f1, f2, f3⟩ := hSF w' hSw; go_simp; try with_reducible rfl); simp only [Act.put, List.setIfInBounds_toArray, List.set_cons_zero, List.set_cons_succ])
  (refine ai_val (v := ?_) 14 rfl open_wide hND (by kernel_rfl) (by kernel_rfl) (by kernel_rfl) (by rfl) hPan ?_ hS ?_; rotate_left; (intro w' hSw; obtain ⟨f0, f1, f2, f3⟩ := hSF w' hSw; go_simp; try with_reducible rfl); simp only [Act.put, List.setIfInBounds_toArray, List.set_cons_zero, List.set_cons_succ])
  (refine ai_val (v := ?_) 15 rfl open_wide hND (by kernel_rfl) (by kernel_rfl) (by kernel_rfl) (by rfl) hPan ?_ hS ?_; rotate_left; (intro w' hSw; obtain ⟨f0, f1, f2, f3⟩ := hSF w' hSw; go_simp; try with_reducible rfl); simp only [Act.put, List.setIfInBounds_toArray, List.set_cons_zero, List.set_cons_succ])
  refine ai_one 16 (by kernel_rfl) (oi_yield 16 rfl open_wide hND (by rfl) rfl rfl (vs := #[.int .i64 t.cost]) (by simp only [List.map_toArray, List.map_cons, List.map_nil]; rfl) (hY.next (9 - 1) [t.per, t.ded] ((usesB t.lon 8 : Int) :: (usesK t.lon 8).map Prod.snd) _ rfl j2) rfl ?_)
  rintro e w4 (⟨rfl, j3, kr⟩ | ⟨rfl, jx, kr⟩)
  rotate_left
  · refine ⟨_, rfl, hSK hS kr, ?_⟩
    replace hS := hSK hS kr
    (simp only [Act.put, List.setIfInBounds_toArray, List.set_cons_zero, List.set_cons_succ])
    (refine ai_val (v := ?_) 17 rfl open_wide hND (by kernel_rfl) (by kernel_rfl) (by kernel_rfl) (by rfl) hPan ?_ hS ?_; rotate_left; (intro w' hSw; go_simp; try with_reducible rfl); simp only [Act.put, List.setIfInBounds_toArray, List.set_cons_zero, List.set_cons_succ])
    (refine ai_val (v := ?_) 18 rfl open_wide hND (by kernel_rfl) (by kernel_rfl) (by kernel_rfl) (by rfl) hPan ?_ hS ?_; rotate_left; (intro w' hSw; go_simp; try with_reducible rfl); simp only [Act.put, List.setIfInBounds_toArray, List.set_cons_zero, List.set_cons_succ])
    (refine ai_val (v := ?_) 19 rfl open_wide hND (by kernel_rfl) (by kernel_rfl) (by kernel_rfl) (by rfl) hPan ?_ hS ?_; rotate_left; (intro w' hSw; go_simp; try with_reducible rfl); simp only [Act.put, List.setIfInBounds_toArray, List.set_cons_zero, List.set_cons_succ])
    (refine ai_off 20 rfl open_wide hND (by kernel_rfl) (by kernel_rfl) (by kernel_rfl) (by rfl) hPan hS ?_; simp only [Act.put, List.setIfInBounds_toArray, List.set_cons_zero, List.set_cons_succ])
    (refine ai_off 21 rfl open_wide hND (by kernel_rfl) (by kernel_rfl) (by kernel_rfl) (by rfl) hPan hS ?_; simp only [Act.put, List.setIfInBounds_toArray, List.set_cons_zero, List.set_cons_succ])
    (refine ai_off 22 rfl open_wide hND (by kernel_rfl) (by kernel_rfl) (by kernel_rfl) (by rfl) hPan hS ?_; simp only [Act.put, List.setIfInBounds_toArray, List.set_cons_zero, List.set_cons_succ])
    (refine ai_off 23 rfl open_wide hND (by kernel_rfl) (by kernel_rfl) (by kernel_rfl) (by rfl) hPan hS ?_; simp only [Act.put, List.setIfInBounds_toArray, List.set_cons_zero, List.set_cons_succ])
    (refine ai_off 24 rfl open_wide hND (by kernel_rfl) (by kernel_rfl) (by kernel_rfl) (by rfl) hPan hS ?_; simp only [Act.put, List.setIfInBounds_toArray, List.set_cons_zero, List.set_cons_succ])
    (refine ai_off 25 rfl open_wide hND (by kernel_rfl) (by kernel_rfl) (by kernel_rfl) (by rfl) hPan hS ?_; simp only [Act.put, List.setIfInBounds_toArray, List.set_cons_zero, List.set_cons_succ])
    (refine ai_val (v := ?_) 26 rfl open_wide hND (by kernel_rfl) (by kernel_rfl) (by kernel_rfl) (by rfl) hPan ?_ hS ?_; rotate_left; (intro w' hSw; go_simp; try with_reducible rfl); simp only [Act.put, List.setIfInBounds_toArray, List.set_cons_zero, List.set_cons_succ])
    refine ai_end (by kernel_rfl) ?_ _
    obtain ⟨s0, s1, s2⟩ := hS
    have cc := s2.cell 0
    have ff := s2.frozen 0
    simp at cc
    gi_wp2
    have m1 := (s2.set_ 0 (.bool false)).cell 0
    simp at m1
    exact ⟨.bool false, by simp [results, Tryd.results37, go_sem, m1], .inr ⟨rfl, _, ⟨[(usesB t.lon 8 : Int)] ++ (usesK t.lon 8).map Prod.snd, by simp [wordsT]⟩, hJx.set (.bool false) jx s2 rfl ⟨by omega, _, _, _, rfl, by decide⟩⟩⟩
  refine ⟨_, rfl, hSK hS kr, ?_⟩
  replace hS := hSK hS kr
  have k4 := k3.trans kr
  clear kr
  (simp only [Act.put, List.setIfInBounds_toArray, List.set_cons_zero, List.set_cons_succ])
  (refine ai_val (v := ?_) 17 rfl open_wide hND (by kernel_rfl) (by kernel_rfl) (by kernel_rfl) (by rfl) hPan ?_ hS ?_; rotate_left; (intro w' hSw; go_simp; try with_reducible rfl); simp only [Act.put, List.setIfInBounds_toArray, List.set_cons_zero, List.set_cons_succ])
  (refine ai_val (v := ?_) 18 rfl open_wide hND (by kernel_rfl) (by kernel_rfl) (by kernel_rfl) (by rfl) hPan ?_ hS ?_; rotate_left; (intro w' hSw; go_simp; try with_reducible rfl); simp only [Act.put, List.setIfInBounds_toArray, List.set_cons_zero, List.set_cons_succ])
  (refine ai_val (v := ?_) 19 rfl open_wide hND (by kernel_rfl) (by kernel_rfl) (by kernel_rfl) (by rfl) hPan ?_ hS ?_; rotate_left; (intro w' hSw; go_simp; try with_reducible rfl); simp only [Act.put, List.setIfInBounds_toArray, List.set_cons_zero, List.set_cons_succ])
  (refine ai_val (v := ?_) 20 rfl open_wide hND (by kernel_rfl) (by kernel_rfl) (by kernel_rfl) (by rfl) hPan ?_ hS ?_; rotate_left; (intro w' hSw; obtain ⟨f0, f1, f2, f3⟩ := hSF w' hSw; go_simp; try with_reducible rfl); simp only [Act.put, List.setIfInBounds_toArray, List.set_cons_zero, List.set_cons_succ])
  refine ai_agg 21 57 (.tmp 2) (tskCells t) rfl open_wide hND (by kernel_rfl) (by kernel_rfl) (by kernel_rfl) (by rfl) hPan rfl rfl (by rw [HTL]; exact agg_task) (fun w' hw' => hw'.1.cellsAt) hS ?_
  (simp only [Act.put, List.setIfInBounds_toArray, List.set_cons_zero, List.set_cons_succ])
  refine ai_one 22 (by kernel_rfl) (oi_call (f := 48) 22 rfl open_wide hND (by rfl) rfl (by simp only [List.map_toArray, List.map_cons, List.map_nil]; rfl) Tryd.func48 (by kernel_rfl) (by kernel_rfl) (hUs _).out ?_)
  rintro e w4u ⟨rfl, ku⟩
  have kk : KpW B0 B2 w4 w4u := (KpW.refl w4).step ku (by simp) (Nat.le_trans hB0 k4.below.size)
  refine ⟨_, rfl, hSK hS kk, ?_⟩
  replace hS := hSK hS kk
  replace j3 := hJ.keep0 j3 ku
  replace k4 := k4.trans kk
  clear kk ku
  (simp only [Act.put, List.setIfInBounds_toArray, List.set_cons_zero, List.set_cons_succ])
  refine ai_val (v := .int .i64 (usesB t.lon 8 : Nat)) 23 rfl open_wide hND (by kernel_rfl) (by kernel_rfl) (by kernel_rfl) (by rfl) hPan (fun w' _ => ?_) hS ?_
  · go_simp
    exact HUW.out
  (simp only [Act.put, List.setIfInBounds_toArray, List.set_cons_zero, List.set_cons_succ])
  refine ai_one 24 (by kernel_rfl) (oi_yield 24 rfl open_wide hND (by rfl) rfl rfl (vs := #[.int .i64 (usesB t.lon 8 : Nat)]) (by simp only [List.map_toArray, List.map_cons, List.map_nil]; rfl) (hY.next (9 - 1) [t.per, t.ded, t.cost] ((usesK t.lon 8).map Prod.snd) _ rfl j3) rfl ?_)
  rintro e w5 (⟨rfl, j4, kr⟩ | ⟨rfl, jx, kr⟩)
  rotate_left
  · refine ⟨_, rfl, hSK hS kr, ?_⟩
    replace hS := hSK hS kr
    (simp only [Act.put, List.setIfInBounds_toArray, List.set_cons_zero, List.set_cons_succ])
    (refine ai_val (v := ?_) 25 rfl open_wide hND (by kernel_rfl) (by kernel_rfl) (by kernel_rfl) (by rfl) hPan ?_ hS ?_; rotate_left; (intro w' hSw; go_simp; try with_reducible rfl); simp only [Act.put, List.setIfInBounds_toArray, List.set_cons_zero, List.set_cons_succ])
    (refine ai_val (v := ?_) 26 rfl open_wide hND (by kernel_rfl) (by kernel_rfl) (by kernel_rfl) (by rfl) hPan ?_ hS ?_; rotate_left; (intro w' hSw; go_simp; try with_reducible rfl); simp only [Act.put, List.setIfInBounds_toArray, List.set_cons_zero, List.set_cons_succ])
    refine ai_end (by kernel_rfl) ?_ _
    obtain ⟨s0, s1, s2⟩ := hS
    have cc := s2.cell 0
    have ff := s2.frozen 0
    simp at cc
    gi_wp2
    have m1 := (s2.set_ 0 (.bool false)).cell 0
    simp at m1
    exact ⟨.bool false, by simp [results, Tryd.results37, go_sem, m1], .inr ⟨rfl, _, ⟨(usesK t.lon 8).map Prod.snd, by simp [wordsT]⟩, hJx.set (.bool false) jx s2 rfl ⟨by omega, _, _, _, rfl, by decide⟩⟩⟩
  refine ⟨_, rfl, hSK hS kr, ?_⟩
  replace hS := hSK hS kr
  have k5 := k4.trans kr
  clear kr
  (simp only [Act.put, List.setIfInBounds_toArray, List.set_cons_zero, List.set_cons_succ])
  (refine ai_val (v := ?_) 25 rfl open_wide hND (by kernel_rfl) (by kernel_rfl) (by kernel_rfl) (by rfl) hPan ?_ hS ?_; rotate_left; (intro w' hSw; go_simp; try with_reducible rfl); simp only [Act.put, List.setIfInBounds_toArray, List.set_cons_zero, List.set_cons_succ])
  (refine ai_val (v := ?_) 26 rfl open_wide hND (by kernel_rfl) (by kernel_rfl) (by kernel_rfl) (by rfl) hPan ?_ hS ?_; rotate_left; (intro w' hSw; go_simp; try with_reducible rfl); simp only [Act.put, List.setIfInBounds_toArray, List.set_cons_zero, List.set_cons_succ])
  refine ai_end (by kernel_rfl) ?_ _
  obtain ⟨s0, s1, s2⟩ := hS
  have HA : Hid (AggOf Tryd.prog 57 (tskCells t).length) := by show AggOf _ _ _; rw [HTL]; exact agg_task
  have HCA := Lib.hid s0.cellsAt
  gi_wp2_with (first
    | (refine wpListIn_agg rfl 57 (.tmp 2) rfl rfl (cs := tskCells t) HA.out HCA.out ?_)
    | (refine ⟨trivial, ?_⟩; gi_at_call 49; refine (callsIn_wide.2 (uses_any t _)).mono ?_; rintro e w' ⟨rfl, rfl⟩))
  obtain ⟨W5, hW5⟩ : ∃ W5, w5.alloc (.cells (tskCells t).toArray 57) = W5 := ⟨_, rfl⟩
  have hsz5 : W5.heap.size = w5.heap.size + 1 := by rw [← hW5]; simp
  have hge : W.heap.size + 3 ≤ w5.heap.size := s2.lt
  have K5 : Keep [] w5 W5 := by rw [← hW5]; exact (Keep.refl _ w5).alloc _
  have d0 : Blk W5 w5.heap.size 57 (tskCells t).toArray := by rw [← hW5]; exact Blk.new _ _ _
  have j5 := hJ.keep0 j4 K5
  have kk5 := k5.step K5 (by simp) hB0
  have s5 : SB W l t W5 := ⟨s0.keep K5 (by simp), s1.keep K5 (by simp), s2.keep K5 (by simp)⟩
  simp only [hW5]
  clear HA HCA hW5 hUs HTL HUW s0 s1 s2 hPan hND k1 k2 k3 k4 K5
  have hss := uses1_seq 8 t w5.heap.size W5 (by omega) d0 hl8
  have HWT : Hid (wordsT t = [t.per, t.ded, t.cost, (usesB t.lon 8 : Nat)] ++ (usesK t.lon 8).map Prod.snd) := show _ = _ from rfl
  have hpf : ∀ (pre : List PII) (x : PII), pre ++ [x] <+: usesK t.lon 8 → ([t.per, t.ded, t.cost, (usesB t.lon 8 : Nat)] ++ pre.map Prod.snd) ++ [x.2] <+: wordsT t := fun pre x h => by
    obtain ⟨r, hr⟩ := h
    rw [HWT.out, ← hr]
    exact ⟨r.map Prod.snd, by simp⟩
  generalize hcs : (tskCells t).toArray = cs at *
  refine wpIn_rangeT (F := Fence.wide) (n := 9) (Lo := fun _ _ => False) (ps := #[36, 37]) rfl (by omega) (gf := 54) (lb := #[.pointer (some ⟨w5.heap.size, 0, none⟩)]) rfl trivial (enters_of Tryd.func54 (by kernel_rfl) rfl)
    (hss.toT _) Same.trans (fun W _ o' _ _ => Same.putO (by simp; omega) o') (Below.refl _ _) (fun _ => rfl)
    (fun pre W' => J ([t.per, t.ded, t.cost, (usesB t.lon 8 : Nat)] ++ pre.map Prod.snd) W' ∧ (SB W l t W' ∧ KpW B0 B2 W W' ∧ Blk W' w5.heap.size 57 cs))
    (fun c _ W' => c = .ret ∧ (∃ q, q <+: wordsT t ∧ Jx q W') ∧ Blk W' (W.heap.size + 2) 4 #[.bool false])
    ?hI ?hIx ⟨by simpa using j5, s5, kk5, d0⟩
    (fun x => { tmps := #[.agg cs, .func (.yield l) #[] #[], .pointer (some ⟨W.heap.size, 0, none⟩), .pointer (some ⟨W.heap.size + 1, 0, none⟩), .pointer (some ⟨W.heap.size + 1 + 1, 0, none⟩), undef, .int .i64 x.2,
      .func (.yield l) #[] #[], .pointer (some ⟨W.heap.size, 0, none⟩), .int .i64 t.per, .bool true, .bool false, .bool false,
      .func (.yield l) #[] #[], .pointer (some ⟨W.heap.size, 1, none⟩), .int .i64 t.ded, .bool true, .bool false, .bool false, .bool false,
      .func (.yield l) #[] #[], .pointer (some ⟨W.heap.size, 2, none⟩), .int .i64 t.cost, .bool true, .bool false, .bool false, .bool false,
      .func (.yield l) #[] #[], .agg cs, .int .u32 (usesB t.lon 8 : Nat), .int .i64 (usesB t.lon 8 : Nat), .bool true, .bool false, .bool false,
      .agg cs, .func (.func 54) #[] #[.pointer (some ⟨w5.heap.size, 0, none⟩)], .int .i64 x.1, .int .i64 x.2, undef, undef, undef, undef], defers := [] }) ?assign ?body ?done ?stop
  case hI =>
    refine OwnFrom.toT (OwnFrom.and ?_ (OwnFrom.and (OwnFrom.and ?_ (OwnFrom.and ?_ ?_)) (OwnFrom.and ?_ ?_)))
    · exact fun pre X Y row hs hg hr => hJ.own _ X Y row hs hg (fun r e => ⟨by have := (hr r e).1; omega, (hr r e).2⟩)
    · exact blk_own _ _ _
    · exact blk_own _ _ _
    · exact blk_own _ _ _
    · exact fun pre X Y row hs hg hr => KpW.own hB0 () X Y row hs hg (fun r e => ⟨by have := (hr r e).1; omega, (hr r e).2⟩)
    · exact blk_own _ _ _
  case hIx =>
    intro c
    refine OwnFrom.toT (OwnFrom.and (fun _ _ _ _ hs _ _ => hs) (OwnFrom.and ?_ ?_))
    · rintro pre X Y row ⟨q, hq, hs⟩ hg hr
      exact ⟨q, hq, hJx.own _ X Y row hs hg (fun r e => ⟨by have := (hr r e).1; omega, (hr r e).2⟩)⟩
    · exact blk_own _ _ _
  case assign =>
    intro l x W K hK
    simp only [encPII]
    gi_wp2
    exact hK
  case body =>
    rintro l' pre x Wb ⟨hj, hs, hk, hd⟩ hpre
    obtain ⟨f0, _⟩ := hSF _ hs
    have hp2 := hpf pre x hpre
    obtain ⟨fn, tmps, assign, body, hy, hR⟩ := hY 6 _ x.2 Wb hj hp2
    dsimp only [encZ] at hy
    gi_wp2
    refine hR.mono ?_
    rintro e w6 (⟨rfl, hj6, hk6⟩ | ⟨rfl, hj6, hk6⟩)
    · have hs6 := hSK hs hk6
      have hd6 := hk6.blk hd (by decide)
      gi_wp2
      refine ⟨⟨hk6.other.size, fun k o hk2 ho hc => hk6.other.same k o (by omega) ho hc⟩, fun y hy => ?_, by simpa using hj6, hs6, hk.trans hk6, hd6⟩
      simp at hy
      rw [hy]
      exact (show w6.heap[w5.heap.size]? = _ from hd6).trans (show Wb.heap[w5.heap.size]? = _ from hd).symm
    · obtain ⟨s0, s1, s2⟩ := hSK hs hk6
      have hd6 := hk6.blk hd (by decide)
      have cc := s2.cell 0
      have ff := s2.frozen 0
      simp at cc
      gi_wp2
      have kst := keep_set w6 (W.heap.size + 2) 0 (.bool false)
      refine ⟨⟨Nat.le_trans hk6.other.size kst.size, fun k o hk2 ho hc => ?_⟩, fun y hy => ?_, rfl, ⟨_, hp2, hJx.set (.bool false) hj6 s2 rfl ⟨by omega, _, _, _, rfl, by decide⟩⟩, s2.set_ 0 _⟩
      · have := hk6.other.same k o (by omega) ho hc
        exact (kst.block k (Array.getElem?_eq_some_iff.1 this).1 (by simp; omega)).trans this
      · simp at hy
        rw [hy]
        exact (kst.block _ hd6.lt (by simp; omega)).trans ((show w6.heap[w5.heap.size]? = _ from hd6).trans (show Wb.heap[w5.heap.size]? = _ from hd).symm)
  case done =>
    rintro D Wd hD ⟨hj, ⟨s0, s1, s2⟩, hk, hd⟩ hD2
    have cc := s2.cell 0
    have ff := s2.frozen 0
    simp at cc
    gi_wp2
    have kst := keep_set Wd (W.heap.size + 2) 0 (.bool true)
    have hD3 := (kst.block D (Array.getElem?_eq_some_iff.1 hD2).1 (by simp; omega)).trans hD2
    refine ⟨by simp, .inl ⟨_, _, rfl, run_takeDeferred hD3, ?_⟩⟩
    have e2 := s2.set_ 0 (.bool true)
    have m1 := (blk_putObj (.deferred none) e2 hD3 rfl).cell 0
    simp at m1
    refine ⟨.bool true, by simp [results, Tryd.results37, go_sem, m1], .inl ⟨rfl, ?_, ?_⟩⟩
    · exact hJ.own.putObj (s := wordsT t) _ (hJ.set (.bool true) (by rw [HWT.out]; exact hj) s2 rfl ⟨by omega, _, _, _, rfl, by decide⟩) (by omega) hD3 rfl
    · exact (hk.step kst (by simp) hB0).step (keep_putObj _ D _) (by simp; omega) hB0
  case stop =>
    rintro D c pre Wd hD hpre ⟨rfl, ⟨q, hq, hjx⟩, hb⟩ hD2
    gi_wp2
    refine ⟨by simp, .inl ⟨_, _, rfl, run_takeDeferred hD2, ?_⟩⟩
    have m1 := (blk_putObj (.deferred none) hb hD2 rfl).cell 0
    simp at m1
    exact ⟨.bool false, by simp [results, Tryd.results37, go_sem, m1], .inr ⟨rfl, q, hq, hJx.own.putObj _ hjx (by omega) hD2 rfl⟩⟩
end Go.Proofs.YtfgjcjpemlgnmaaDoor
