/- The chapter's example of images: alive. -/
import Derived.Test.YtajlkfhekligeaaImgC
import Derived.Test.YtajlkfhekligeaaImgS
import Derived.Test.YtajlkfhekligeaaImgCp
import Derived.Test.YtajlkfhekligeaaHeld
namespace Go.Proofs.Ytajlkfhekligeaa
open Go.RowKit

def exImg : Img := ⟨0, [⟨10, 8, 2, [0, 0, 0, 0, 0, 0, 0, 0]⟩], [⟨1, []⟩], []⟩
def exV (B : Nat) : ImgV := ⟨some ⟨B, 0, none⟩, 1, some ⟨B + 1, 0, none⟩, 1, none, 0, [(none, 0)]⟩
theorem exImg_ok : exImg.Ok := ⟨by simp [exImg], by simp [exImg], by simp [exImg], by simp [exImg]⟩
def noImg : Img := ⟨0, [], [], []⟩
def noV : ImgV := ⟨none, 0, none, 0, none, 0, []⟩
theorem noImg_at (w : World) : ImgAt w noV noImg :=
  ⟨⟨by simp [noImg], by simp [noImg], by simp [noImg], by simp [noImg]⟩, rfl, Reads.none_, Reads.none_, Reads.none_, fun i h => by simp [noImg] at h, Nat.zero_le _, Nat.zero_le _, Nat.zero_le _, by simp [noImg]⟩
theorem reads_blk {w : World} {g t size n : Nat} {l : List Value} (h : Blk w g t l.toArray) (hl : l.length = n * size) : Reads w size (some ⟨g, 0, none⟩) n l :=
  ⟨hl, fun _ => ⟨g, 0, rfl, h.lt, fun j u hu => by rw [Nat.zero_add]; exact h.at_ hu⟩⟩
theorem exImg_at {w : World} {B : Nat} (h1 : Blk w B 38 (tskCells ⟨10, 8, 2, [0, 0, 0, 0, 0, 0, 0, 0]⟩).toArray) (h2 : Blk w (B + 1) 47 #[.int .u32 1, .slice none 0 0]) : ImgAt w (exV B) exImg :=
  ⟨exImg_ok, rfl, reads_blk h1 rfl, reads_blk (l := [.int .u32 1, .slice none 0 0]) h2 rfl, Reads.none_, fun i h h' => by
    have : i = 0 := by simp [exImg] at h; omega
    subst this
    exact Reads.none_, by simp [exImg, maxLen], by simp [exImg, maxLen], by simp [exImg, maxLen], by simp [exImg, maxLen]⟩
theorem exImg_chk : chkImg exImg = (0, 0) := by decide
theorem noImg_chk : chkImg noImg = (0, 100) := by decide

set_option maxRecDepth 100000 in
set_option maxHeartbeats 2000000 in
theorem alive10 (w : World) : Calls Try.prog 11 #[] w fun e w' => e = .returned (.bool true) ∧ Keep [] w w' := by
  have b1 := ((Blk.new w 38 (tskCells ⟨10, 8, 2, [0, 0, 0, 0, 0, 0, 0, 0]⟩).toArray).alloc (.cells #[.int .u32 1, .slice none 0 0] 47)).alloc (.cells (imgCells (exV w.heap.size) exImg).toArray 26)
  have b2 := (Blk.new1 w (.cells (tskCells ⟨10, 8, 2, [0, 0, 0, 0, 0, 0, 0, 0]⟩).toArray 38) 47 #[.int .u32 1, .slice none 0 0]).alloc (.cells (imgCells (exV w.heap.size) exImg).toArray 26)
  have b3 := Blk.new2 w (.cells (tskCells ⟨10, 8, 2, [0, 0, 0, 0, 0, 0, 0, 0]⟩).toArray 38) (.cells #[.int .u32 1, .slice none 0 0] 47) 26 (imgCells (exV w.heap.size) exImg).toArray
  have K0 := (((Keep.refl [] w).alloc (.cells (tskCells ⟨10, 8, 2, [0, 0, 0, 0, 0, 0, 0, 0]⟩).toArray 38)).alloc (.cells #[.int .u32 1, .slice none 0 0] 47)).alloc (.cells (imgCells (exV w.heap.size) exImg).toArray 26)
  obtain ⟨W0, hW0⟩ : ∃ W0, ((w.alloc (.cells (tskCells ⟨10, 8, 2, [0, 0, 0, 0, 0, 0, 0, 0]⟩).toArray 38)).alloc (.cells #[.int .u32 1, .slice none 0 0] 47)).alloc (.cells (imgCells (exV w.heap.size) exImg).toArray 26) = W0 := ⟨_, rfl⟩
  rw [hW0] at b1 b2 b3 K0
  have hW : Hid (((w.alloc (.cells #[.int .i64 10, .int .i64 8, .int .i64 2, .int .i64 0, .int .i64 0, .int .i64 0, .int .i64 0, .int .i64 0, .int .i64 0, .int .i64 0, .int .i64 0] 38)).alloc (.cells #[.int .u32 1, .slice none 0 0] 47)).alloc
      (.cells #[.int .i64 0, .slice (some ⟨w.heap.size, 0, none⟩) 1 1, .slice (some ⟨w.heap.size + 1, 0, none⟩) 1 1, .slice none 0 0] 26) = W0) := hW0
  clear hW0
  have HI := Lib.hid (exImg_at b1 b2)
  have HB3 := Lib.hid b3
  have HK := Lib.hid K0
  clear b1 b2 b3 K0
  go_enter Try.func11, Try.ntmps11
  go_wp2_with (refine stop_at 12 rfl ?_)
  constructor
  rw [hW.out]
  clear hW
  refine wpList_load_agg rfl 26 (.tmp 1) rfl rfl (cs := imgCells (exV w.heap.size) exImg) agg_image HB3.out.cellsAt ?_
  have HAl := fun W => Lib.hid (all_any (exV w.heap.size) exImg W (by simp [exImg, maxLen]))
  have HCp := fun W hk => Lib.hid (copy_any (exV w.heap.size) exImg W (HI.out.keep0 hk) (by simp [exImg]) (by simp [exImg]) (by simp [exImg]) (by simp [exImg]))
  have HSm := fun v' W hk h' => Lib.hid (same_any (exV w.heap.size) v' exImg exImg W (HI.out.keep0 hk) h')
  have HCk := Lib.hid (check_any (exV w.heap.size) exImg W0 HI.out)
  have HCn := fun W => Lib.hid (check_any noV noImg W (noImg_at W))
  rw [exImg_chk] at HCk
  rw [noImg_chk] at HCn
  have HIL : Hid ((imgCells (exV w.heap.size) exImg).length = 4) := show _ = _ from rfl
  have HNL : Hid ((imgCells noV noImg).toArray = #[.int .i64 0, .slice none 0 0, .slice none 0 0, .slice none 0 0]) := show _ = _ from rfl
  have HN := fun W => Lib.hid (by have := (HCn W).out; rw [HNL.out] at this; exact this)
  clear HCn HNL
  obtain ⟨ex, hex⟩ : ∃ ex, ex = exImg := ⟨_, rfl⟩
  have hl1 : Hid (allSet (min ex.tasks.length 32) = 1) := by show _ = _; rw [hex]; rfl
  have hl2 : Hid (Ending.returned (Value.int .u32 ((allSet (min ex.tasks.length 32) : Nat) : Int)) = .returned (.int .u32 (1 : Int))) := by show _ = _; rw [hl1.out]; rfl
  have hdec : Hid (decide (ex = ex) = true) := by show _ = _; simp
  rw [← hex] at HAl HCp HSm HCk HIL HB3 HI ⊢
  clear hex
  generalize exV w.heap.size = ev at *
  generalize imgCells ev ex = il at *
  go_wp2_with fail
  refine HCk.out.mono ?_
  rintro e w1 ⟨rfl, k1⟩
  unfold chkRes
  go_wp2_with fail
  refine (HN _).out.mono ?_
  rintro e w2 ⟨rfl, k2⟩
  unfold chkRes
  have K2 := k1.then k2
  have hF : ∀ w', Keep [] W0 w' → CellsAt w' (w.heap.size + 1 + 1) 0 il := fun w' hw => (HB3.out.keep0 hw).cellsAt
  have HF := Lib.hid hF
  clear hF k1 k2
  go_wp2
  refine hg_start (Keep [] W0) (by kernel_rfl) K2.drew (by intro c a d v w h; cases d <;> exact h) (fun hS hPan => ?_)
  (refine hg_val (v := ?_) 0 rfl (by kernel_rfl) (by kernel_rfl) (by kernel_rfl) (by rfl) hPan ?_ hS ?_; rotate_left; (intro w' hSw; go_simp; with_reducible rfl); simp only [Act.put, List.setIfInBounds_toArray, List.set_cons_zero, List.set_cons_succ])
  (refine hg_val (v := ?_) 1 rfl (by kernel_rfl) (by kernel_rfl) (by kernel_rfl) (by rfl) hPan ?_ hS ?_; rotate_left; (intro w' hSw; go_simp; with_reducible rfl); simp only [Act.put, List.setIfInBounds_toArray, List.set_cons_zero, List.set_cons_succ])
  (refine hg_val (v := ?_) 2 rfl (by kernel_rfl) (by kernel_rfl) (by kernel_rfl) (by rfl) hPan ?_ hS ?_; rotate_left; (intro w' hSw; go_simp; with_reducible rfl); simp only [Act.put, List.setIfInBounds_toArray, List.set_cons_zero, List.set_cons_succ])
  (refine hg_val (v := ?_) 3 rfl (by kernel_rfl) (by kernel_rfl) (by kernel_rfl) (by rfl) hPan ?_ hS ?_; rotate_left; (intro w' hSw; go_simp; with_reducible rfl); simp only [Act.put, List.setIfInBounds_toArray, List.set_cons_zero, List.set_cons_succ])
  (refine hg_val (v := ?_) 4 rfl (by kernel_rfl) (by kernel_rfl) (by kernel_rfl) (by rfl) hPan ?_ hS ?_; rotate_left; (intro w' hSw; go_simp; with_reducible rfl); simp only [Act.put, List.setIfInBounds_toArray, List.set_cons_zero, List.set_cons_succ])
  (refine hg_val (v := ?_) 5 rfl (by kernel_rfl) (by kernel_rfl) (by kernel_rfl) (by rfl) hPan ?_ hS ?_; rotate_left; (intro w' hSw; go_simp; with_reducible rfl); simp only [Act.put, List.setIfInBounds_toArray, List.set_cons_zero, List.set_cons_succ])
  (refine hg_val (v := ?_) 6 rfl (by kernel_rfl) (by kernel_rfl) (by kernel_rfl) (by rfl) hPan ?_ hS ?_; rotate_left; (intro w' hSw; go_simp; with_reducible rfl); simp only [Act.put, List.setIfInBounds_toArray, List.set_cons_zero, List.set_cons_succ])
  refine hg_agg 7 26 (.tmp 1) il rfl (by kernel_rfl) (by kernel_rfl) (by kernel_rfl) (by rfl) hPan rfl rfl (by rw [HIL.out]; exact agg_image) (fun w' hw => HF.out w' hw) hS ?_
  (simp only [Act.put, List.setIfInBounds_toArray, List.set_cons_zero, List.set_cons_succ])
  refine hg_call 8 rfl (by kernel_rfl) (by rfl) rfl (by simp only [List.map_toArray, List.map_cons, List.map_nil]; rfl) Try.func17 (by kernel_rfl) (by kernel_rfl) (HAl _).out ?_
  rintro e w3 ⟨rfl, k3⟩
  have hS := hS.then k3
  rw [hl1.out]
  refine ⟨_, rfl, hS, ?_⟩
  clear k3
  (simp only [Act.put, List.setIfInBounds_toArray, List.set_cons_zero, List.set_cons_succ])
  (refine hg_val (v := ?_) 9 rfl (by kernel_rfl) (by kernel_rfl) (by kernel_rfl) (by rfl) hPan ?_ hS ?_; rotate_left; (intro w' hSw; go_simp; with_reducible rfl); simp only [Act.put, List.setIfInBounds_toArray, List.set_cons_zero, List.set_cons_succ])
  (refine hg_val (v := ?_) 10 rfl (by kernel_rfl) (by kernel_rfl) (by kernel_rfl) (by rfl) hPan ?_ hS ?_; rotate_left; (intro w' hSw; go_simp; with_reducible rfl); simp only [Act.put, List.setIfInBounds_toArray, List.set_cons_zero, List.set_cons_succ])
  (refine hg_val (v := ?_) 11 rfl (by kernel_rfl) (by kernel_rfl) (by kernel_rfl) (by rfl) hPan ?_ hS ?_; rotate_left; (intro w' hSw; go_simp; with_reducible rfl); simp only [Act.put, List.setIfInBounds_toArray, List.set_cons_zero, List.set_cons_succ])
  refine hg_agg 12 26 (.tmp 1) il rfl (by kernel_rfl) (by kernel_rfl) (by kernel_rfl) (by rfl) hPan rfl rfl (by rw [HIL.out]; exact agg_image) (fun w' hw => HF.out w' hw) hS ?_
  (simp only [Act.put, List.setIfInBounds_toArray, List.set_cons_zero, List.set_cons_succ])
  refine hg_agg 13 26 (.tmp 1) il rfl (by kernel_rfl) (by kernel_rfl) (by kernel_rfl) (by rfl) hPan rfl rfl (by rw [HIL.out]; exact agg_image) (fun w' hw => HF.out w' hw) hS ?_
  (simp only [Act.put, List.setIfInBounds_toArray, List.set_cons_zero, List.set_cons_succ])
  refine hg_call 14 rfl (by kernel_rfl) (by rfl) rfl (by simp only [List.map_toArray, List.map_cons, List.map_nil]; rfl) Try.func12 (by kernel_rfl) (by kernel_rfl) (HCp _ hS).out ?_
  rintro e w5 ⟨v', rfl, hc, k5⟩
  have hS := hS.then k5
  have HC := Lib.hid hc.img
  refine ⟨_, rfl, hS, ?_⟩
  clear hc k5
  (simp only [Act.put, List.setIfInBounds_toArray, List.set_cons_zero, List.set_cons_succ])
  refine hg_call 15 rfl (by kernel_rfl) (by rfl) rfl (by simp only [List.map_toArray, List.map_cons, List.map_nil]; rfl) Try.func14 (by kernel_rfl) (by kernel_rfl) (HSm v' _ hS HC.out).out ?_
  rintro e w6 ⟨rfl, k6⟩
  have hS := hS.then k6
  rw [hdec.out]
  refine ⟨_, rfl, hS, ?_⟩
  clear k6
  (simp only [Act.put, List.setIfInBounds_toArray, List.set_cons_zero, List.set_cons_succ])
  (refine hg_val (v := ?_) 16 rfl (by kernel_rfl) (by kernel_rfl) (by kernel_rfl) (by rfl) hPan ?_ hS ?_; rotate_left; (intro w' hSw; go_simp; with_reducible rfl); simp only [Act.put, List.setIfInBounds_toArray, List.set_cons_zero, List.set_cons_succ])
  (refine hg_val (v := ?_) 17 rfl (by kernel_rfl) (by kernel_rfl) (by kernel_rfl) (by rfl) hPan ?_ hS ?_; rotate_left; (intro w' hSw; go_simp; with_reducible rfl); simp only [Act.put, List.setIfInBounds_toArray, List.set_cons_zero, List.set_cons_succ])
  refine wpAnyH_done (by kernel_rfl) ?_ _
  have K6 := Lib.hid (HK.out.then hS)
  clear hS
  go_wp2
  go_ret
  exact ⟨rfl, K6.out⟩
end Go.Proofs.Ytajlkfhekligeaa
