/- The chapter's image of three modes. No condition. -/
import Derived.Test.YteflgdnekflbbaaDoorCertF
namespace Go.Proofs.YteflgdnekflbbaaDoor
open Go.RowKit
attribute [local go_sem] Oper.semAt_some

def z8t (n : Int) : List Int := [n, 0, 0, 0, 0, 0, 0, 0]
/-- The image; its first task takes 'a' ticks. -/
def exT (a : Int) : Img := ⟨1, [⟨10, 10, a, z8t 1⟩, ⟨20, 18, 5, z8t 0⟩, ⟨40, 40, 6, z8t 2⟩], [⟨3, []⟩, ⟨6, []⟩, ⟨7, []⟩], [⟨0, 1, 1, z16, [0, 0, 0, 0]⟩, ⟨1, 2, 2, z16, [0, 0, 0, 0]⟩, ⟨2, 0, 3, z16, [0, 0, 0, 0]⟩, ⟨0, 2, 3, z16, [0, 0, 0, 0]⟩]⟩
theorem exT_chk : (chkImg (exT 2)).2 = 0 := by kernel_rfl
theorem exT_modes : firstNot (modeFit (exT 2)) 3 = none := by kernel_rfl
theorem exT_edges : firstNot (fun i => (edgeM (exT 2) i).2) 4 = none := by kernel_rfl
theorem exT_adm : admM (exT 2) = (fullCrt (exT 2), 0, 0) := admM_full exT_chk exT_modes exT_edges
theorem exT_bad : (admM (exT 9)).2 = (0, 180) := by
  rw [admM_mode (x := exT 9) (by kernel_rfl) (i := 0) (by kernel_rfl)]; rfl
theorem exT_rows : modeRows (exT 2) 0 = [⟨0, 0, 2⟩, ⟨1, 0, 7⟩] := by kernel_rfl
def exTV (B : Nat) : ImgV := ⟨some ⟨B + 4, 0, none⟩, 3, some ⟨B + 5, 0, none⟩, 3, some ⟨B + 7, 0, none⟩, 4, [(none, 0), (none, 0), (none, 0)]⟩
def mddT : List Value := [.int .u32 3, .slice none 0 0, .int .u32 6, .slice none 0 0, .int .u32 7, .slice none 0 0]
theorem exT_task {w : World} {B : Nat} {a : Int} (h1 : Blk w (B + 4) 88 ((exT a).tasks.flatMap tskCells).toArray) : Reads w 11 (some ⟨B + 4, 0, none⟩) 3 ((exT a).tasks.flatMap tskCells) :=
  ⟨by simp [exT, z8t, tskCells, tskInts, iv], fun _ => ⟨B + 4, 0, rfl, h1.lt, fun j u hu => by rw [Nat.zero_add]; exact Blk.at_ (l := (exT a).tasks.flatMap tskCells) h1 hu⟩⟩
theorem exT_mode {w : World} {B : Nat} (h2 : Blk w (B + 5) 76 mddT.toArray) : Reads w 2 (some ⟨B + 5, 0, none⟩) 3 mddT :=
  ⟨rfl, fun _ => ⟨B + 5, 0, rfl, h2.lt, fun j u hu => by rw [Nat.zero_add]; exact Blk.at_ (l := mddT) h2 hu⟩⟩
theorem exT_edge {w : World} {B : Nat} {a : Int} (h3 : Blk w (B + 7) 93 ((exT a).edges.flatMap edgCells).toArray) : Reads w 23 (some ⟨B + 7, 0, none⟩) 4 ((exT a).edges.flatMap edgCells) :=
  ⟨by simp [exT, z16, edgCells, edgInts, iv], fun _ => ⟨B + 7, 0, rfl, h3.lt, fun j u hu => by rw [Nat.zero_add]; exact Blk.at_ (l := (exT a).edges.flatMap edgCells) h3 hu⟩⟩
theorem exT_zip (a : Int) (B : Nat) : ((exT a).modes.zip (exTV B).qa).flatMap mddCells = mddT := rfl
theorem exT_at {w : World} {B : Nat} {a : Int} (h1 : Blk w (B + 4) 88 ((exT a).tasks.flatMap tskCells).toArray) (h2 : Blk w (B + 5) 76 mddT.toArray) (h3 : Blk w (B + 7) 93 ((exT a).edges.flatMap edgCells).toArray) : ImgAt w (exTV B) (exT a) := by
  have hm := exT_mode h2
  rw [← exT_zip a B] at hm
  refine ⟨⟨by simp [exT, z8t], by simp [exT, z16], by simp [exT], by simp [exT]⟩, rfl, exT_task h1, hm, exT_edge h3, ?_, by simp [exT, maxLen], by simp [exT, maxLen], by simp [exT, maxLen], by simp [exT, maxLen]⟩
  · intro i h h'
    have : i = 0 ∨ i = 1 ∨ i = 2 := by simp [exT] at h; omega
    rcases this with rfl | rfl | rfl
    · exact Reads.none_
    · exact Reads.none_
    · exact Reads.none_
theorem new4 (w : World) (a b c d : Obj) (t : Nat) (cs : Array Value) : Blk (((((w.alloc a).alloc b).alloc c).alloc d).alloc (.cells cs t)) (w.heap.size + 4) t cs := by
  have := Blk.new ((((w.alloc a).alloc b).alloc c).alloc d) t cs
  simpa using this
theorem new5 (w : World) (a b c d e : Obj) (t : Nat) (cs : Array Value) : Blk ((((((w.alloc a).alloc b).alloc c).alloc d).alloc e).alloc (.cells cs t)) (w.heap.size + 5) t cs := by
  have := Blk.new (((((w.alloc a).alloc b).alloc c).alloc d).alloc e) t cs
  simpa using this
theorem new7 (w : World) (a b c d e f g : Obj) (t : Nat) (cs : Array Value) : Blk ((((((((w.alloc a).alloc b).alloc c).alloc d).alloc e).alloc f).alloc g).alloc (.cells cs t)) (w.heap.size + 7) t cs := by
  have := Blk.new (((((((w.alloc a).alloc b).alloc c).alloc d).alloc e).alloc f).alloc g) t cs
  simpa using this
set_option maxRecDepth 100000 in
set_option maxHeartbeats 4000000 in
theorem three_no (w : World) : Calls Tryd.prog 16 #[.bool false] w fun e w' => ∃ v, e = .returned (.agg (imgCells v (exT 2)).toArray) ∧ ImgAt w' v (exT 2) ∧ Keep [] w w' := by
  go_enter Tryd.func16, Tryd.ntmps16
  go_wp2_with fail
  refine bodyPost_ret (results_blk rfl _ rfl (vs := imgCells (exTV w.heap.size) (exT 2)) ((((((((Blk.new _ _ _).alloc _).alloc _).alloc _).alloc _).alloc _).alloc _).alloc _) agg_image) rfl ?_
  exact ⟨exTV w.heap.size, rfl, exT_at ((((new4 _ _ _ _ _ _ _).alloc _).alloc _).alloc _) (((new5 _ _ _ _ _ _ _ _).alloc _).alloc _) (new7 _ _ _ _ _ _ _ _ _ _), by (repeat (first | with_reducible (refine Keep.drew ?_) | with_reducible (refine Keep.drewN ?_ _) | with_reducible (refine Keep.setCell ?_ (by simp) _) | with_reducible (refine Keep.alloc ?_ _) | with_reducible (exact Keep.refl _ _)))⟩
set_option maxRecDepth 100000 in
set_option maxHeartbeats 4000000 in
theorem three_yes (w : World) : Calls Tryd.prog 16 #[.bool true] w fun e w' => ∃ v, e = .returned (.agg (imgCells v (exT 9)).toArray) ∧ ImgAt w' v (exT 9) ∧ Keep [] w w' := by
  go_enter Tryd.func16, Tryd.ntmps16
  go_wp2_with fail
  refine bodyPost_ret (results_blk rfl _ rfl (vs := imgCells (exTV w.heap.size) (exT 9)) ((((((((Blk.new _ _ _).alloc _).alloc _).alloc _).alloc _).alloc _).alloc _).alloc _) agg_image) rfl ?_
  exact ⟨exTV w.heap.size, rfl, exT_at ((((new4 _ _ _ _ _ _ _).alloc _).alloc _).alloc _) (((new5 _ _ _ _ _ _ _ _).alloc _).alloc _) (new7 _ _ _ _ _ _ _ _ _ _), by (repeat (first | with_reducible (refine Keep.drew ?_) | with_reducible (refine Keep.drewN ?_ _) | with_reducible (refine Keep.setCell ?_ (by simp) _) | with_reducible (refine Keep.alloc ?_ _) | with_reducible (exact Keep.refl _ _)))⟩
end Go.Proofs.YteflgdnekflbbaaDoor
