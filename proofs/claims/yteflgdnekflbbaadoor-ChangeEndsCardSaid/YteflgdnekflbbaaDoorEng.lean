/- An engine in memory, and what is asked of it; walked. No condition. -/
import Derived.Test.YteflgdnekflbbaaDoorDelT
import Derived.Test.YteflgdnekflbbaaDoorCrtE
import Derived.Test.YteflgdnekflbbaaDoorChQ
import Derived.Test.YteflgdnekflbbaaDoorMaskAll
namespace Go.Proofs.YteflgdnekflbbaaDoor
open Go.RowKit
attribute [local go_sem] Oper.semAt_some

def optI (o : Option Nat) : Int := match o with | none => -1 | some k => (k : Int)
def engL (v : ImgV) (x : Img) (vc : CrtV) (c : Crt) (s : EnS) (A : Option Addr) : List Value :=
  [.int .i64 x.res, .slice v.ta x.tasks.length v.tc, .slice v.ma x.modes.length v.mc, .slice v.ea x.edges.length v.ec, .slice vc.ma c.modes.length vc.mc, .slice vc.ea c.edges.length vc.ec,
   .int .i64 (s.mode : Int), .int .i64 (optI s.edge), .int .i64 (s.ph : Int), .int .i64 (s.since : Int), .int .i64 (s.now : Int), .int .i64 (optI s.held), .int .u32 (s.opn : Int), .pointer A, .int .i64 (s.tm.length : Int)]
theorem agg_eng : AggOf Tryd.prog 69 15 := ⟨by kernel_rfl, by kernel_rfl⟩
theorem agg_news : AggOf Tryd.prog 63 6 := ⟨by kernel_rfl, by kernel_rfl⟩
theorem slice_news : SliceOf Tryd.prog 39 63 6 32 := ⟨Tryd.underlying39, by kernel_rfl, by decide⟩
def nwCells (n : Nw) : List Value := [.bool (n.kind == 1), .bool (n.kind == 2), .bool (n.kind == 3), .int .i64 (n.edge : Int), .int .i64 (n.mode : Int), .int .i64 (n.ticks : Int)]
structure EngAt (w : World) (b : Nat) (v : ImgV) (x : Img) (vc : CrtV) (c : Crt) (s : EnS) (bs : List Nat) : Prop where
  tq : ∃ A, TqAt w b 69 13 (engL v x vc c s A).toArray s.tm bs
  img : ∀ w', Keep (b :: bs) w w' → ImgAt w' v x
  crt : ∀ w', Keep (b :: bs) w w' → CrtE w' vc c
  tab : ∀ w', Keep (b :: bs) w w' → Tab w'
section
variable {w w' : World} {b : Nat} {v : ImgV} {x : Img} {vc : CrtV} {c : Crt} {s : EnS} {bs : List Nat}
theorem EngAt.im (h : EngAt w b v x vc c s bs) : ImgAt w v x := h.img w (Keep.refl _ _)
theorem EngAt.ce (h : EngAt w b v x vc c s bs) : CrtE w vc c := h.crt w (Keep.refl _ _)
theorem EngAt.tb (h : EngAt w b v x vc c s bs) : Tab w := h.tab w (Keep.refl _ _)
theorem TqAt.keep0 {t f g : Nat} {cs : Array Value} {L : List (Nat × Nat)} (h : TqAt w g t f cs L bs) (k : Keep [] w w') : TqAt w' g t f cs L bs := by
  obtain ⟨A, h1, h2⟩ := h.ptr
  exact ⟨h.blk.keep0 k, ⟨A, h1, h2.keep k (fun _ _ => by simp)⟩, h.many, h.nodup, h.off, h.sort, h.le⟩
theorem EngAt.keep0 (h : EngAt w b v x vc c s bs) (k : Keep [] w w') : EngAt w' b v x vc c s bs := by
  obtain ⟨A, h1⟩ := h.tq
  exact ⟨⟨A, h1.keep0 k⟩, fun w2 k2 => h.img w2 ((k.mono (by simp)).trans k2 (fun y hy _ => hy)), fun w2 k2 => h.crt w2 ((k.mono (by simp)).trans k2 (fun y hy _ => hy)), fun w2 k2 => h.tab w2 ((k.mono (by simp)).trans k2 (fun y hy _ => hy))⟩
theorem EngAt.cell (h : EngAt w b v x vc c s bs) : ∃ A, Blk w b 69 (engL v x vc c s A).toArray := h.tq.imp fun _ h => h.blk
theorem EngAt.c6 (h : EngAt w b v x vc c s bs) : w.cell? ⟨b, 6, none⟩ = some (.int .i64 (s.mode : Int)) := by obtain ⟨A, hb⟩ := h.cell; rw [hb.cell]; rfl
theorem EngAt.c7 (h : EngAt w b v x vc c s bs) : w.cell? ⟨b, 7, none⟩ = some (.int .i64 (optI s.edge)) := by obtain ⟨A, hb⟩ := h.cell; rw [hb.cell]; rfl
theorem EngAt.c8 (h : EngAt w b v x vc c s bs) : w.cell? ⟨b, 8, none⟩ = some (.int .i64 (s.ph : Int)) := by obtain ⟨A, hb⟩ := h.cell; rw [hb.cell]; rfl
theorem EngAt.c9 (h : EngAt w b v x vc c s bs) : w.cell? ⟨b, 9, none⟩ = some (.int .i64 (s.since : Int)) := by obtain ⟨A, hb⟩ := h.cell; rw [hb.cell]; rfl
theorem EngAt.c10 (h : EngAt w b v x vc c s bs) : w.cell? ⟨b, 10, none⟩ = some (.int .i64 (s.now : Int)) := by obtain ⟨A, hb⟩ := h.cell; rw [hb.cell]; rfl
theorem EngAt.c11 (h : EngAt w b v x vc c s bs) : w.cell? ⟨b, 11, none⟩ = some (.int .i64 (optI s.held)) := by obtain ⟨A, hb⟩ := h.cell; rw [hb.cell]; rfl
theorem EngAt.c12 (h : EngAt w b v x vc c s bs) : w.cell? ⟨b, 12, none⟩ = some (.int .u32 (s.opn : Int)) := by obtain ⟨A, hb⟩ := h.cell; rw [hb.cell]; rfl
theorem EngAt.c2 (h : EngAt w b v x vc c s bs) : w.cell? ⟨b, 2, none⟩ = some (.slice v.ma x.modes.length v.mc) := by obtain ⟨A, hb⟩ := h.cell; rw [hb.cell]; rfl
theorem EngAt.c3 (h : EngAt w b v x vc c s bs) : w.cell? ⟨b, 3, none⟩ = some (.slice v.ea x.edges.length v.ec) := by obtain ⟨A, hb⟩ := h.cell; rw [hb.cell]; rfl
theorem EngAt.ci (h : EngAt w b v x vc c s bs) : CellsAt w b 0 (imgCells v x) := fun j u hu => by
  obtain ⟨A, hb⟩ := h.cell
  rw [hb.cell, Nat.zero_add]
  match j with
  | 0 => exact hu
  | 1 => exact hu
  | 2 => exact hu
  | 3 => exact hu
  | j + 4 => simp [imgCells] at hu
theorem EngAt.cc (h : EngAt w b v x vc c s bs) : CellsAt w b 4 (crtCells vc c) := fun j u hu => by
  obtain ⟨A, hb⟩ := h.cell
  rw [hb.cell]
  match j with
  | 0 => exact hu
  | 1 => exact hu
  | j + 2 => simp [crtCells] at hu
theorem EngAt.fr (h : EngAt w b v x vc c s bs) (i : Nat) : w.frozen? ⟨b, i, none⟩ = false := by obtain ⟨A, hb⟩ := h.cell; exact hb.frozen i
theorem EngAt.lt (h : EngAt w b v x vc c s bs) : b < w.heap.size := by obtain ⟨A, hb⟩ := h.cell; exact hb.lt
end
theorem optI_lt (o : Option Nat) : (optI o < 0) ↔ o = none := by
  cases o with
  | none => simp [optI]
  | some k => simp [optI]
section
variable {w : World} {b : Nat} {v : ImgV} {x : Img} {vc : CrtV} {c : Crt} {s : EnS} {bs : List Nat} (h : EngAt w b v x vc c s bs)
include h
theorem emode_any : Calls Tryd.prog 17 #[.pointer (some ⟨b, 0, none⟩)] w fun e w' => e = .returned (.int .i64 (s.mode : Int)) ∧ w = w' := by
  have c6 := h.c6
  clear h
  go_enter Tryd.func17, Tryd.ntmps17
  go_wp2
  go_ret
  exact ⟨rfl, rfl⟩
theorem ephase_any : Calls Tryd.prog 11 #[.pointer (some ⟨b, 0, none⟩)] w fun e w' => e = .returned (.int .i64 (s.ph : Int)) ∧ w = w' := by
  have c8 := h.c8
  clear h
  go_enter Tryd.func11, Tryd.ntmps11
  go_wp2
  go_ret
  exact ⟨rfl, rfl⟩
set_option maxRecDepth 100000 in
theorem eedge_any : Calls Tryd.prog 10 #[.pointer (some ⟨b, 0, none⟩)] w fun e w' => e = .returned (.tuple #[.int .i64 (max (optI s.edge) 0), .bool (decide (0 ≤ optI s.edge))]) ∧ Keep [] w w' := by
  have hF : ∀ w', Keep [] w w' → w'.cell? ⟨b, 7, none⟩ = some (.int .i64 (optI s.edge)) ∧ True := fun w' k => ⟨(h.keep0 k).c7, trivial⟩
  clear h
  generalize optI s.edge = ed at *
  go_enter Tryd.func10, Tryd.ntmps10
  go_wp2
  refine wp_region_flow (Keep [] w) rfl (by kernel_rfl) (Keep.refl _ _).drew ?_
  (refine fl_val (v := ?_) (by rfl) ?_ ?_; rotate_left; (intro w' hS; obtain ⟨f1,f2⟩ := hF w' hS; go_simp; with_reducible rfl); simp only [Act.put, List.setIfInBounds_toArray, List.set_cons_zero, List.set_cons_succ])
  (refine fl_val (v := ?_) (by rfl) ?_ ?_; rotate_left; (intro w' hS; obtain ⟨f1,f2⟩ := hF w' hS; go_simp; with_reducible rfl); simp only [Act.put, List.setIfInBounds_toArray, List.set_cons_zero, List.set_cons_succ])
  (refine fl_val (v := ?_) (by rfl) ?_ ?_; rotate_left; (intro w' hS; obtain ⟨f1,f2⟩ := hF w' hS; go_simp; with_reducible rfl); simp only [Act.put, List.setIfInBounds_toArray, List.set_cons_zero, List.set_cons_succ])
  (refine fl_val (v := ?_) (by rfl) ?_ ?_; rotate_left; (intro w' hS; obtain ⟨f1,f2⟩ := hF w' hS; go_simp; with_reducible rfl); simp only [Act.put, List.setIfInBounds_toArray, List.set_cons_zero, List.set_cons_succ])
  refine fl_val (v := .int .i64 (max ed 0)) (by rfl) (fun w' _ => run_max rfl rfl) ?_
  simp only [Act.put, List.setIfInBounds_toArray, List.set_cons_zero, List.set_cons_succ]
  repeat (refine fl_val (v := ?_) (by rfl) ?_ ?_; rotate_left; (intro w' hS; obtain ⟨f1,f2⟩ := hF w' hS; go_simp; with_reducible rfl); simp only [Act.put, List.setIfInBounds_toArray, List.set_cons_zero, List.set_cons_succ])
  refine fl_nil ?_
  intro w4 hS
  clear hF
  go_wp2
  go_ret2
  exact ⟨rfl, hS⟩
set_option maxRecDepth 100000 in
theorem eheld_any : Calls Tryd.prog 9 #[.pointer (some ⟨b, 0, none⟩)] w fun e w' => e = .returned (.tuple #[.int .i64 (max (optI s.held) 0), .bool (decide (0 ≤ optI s.held))]) ∧ Keep [] w w' := by
  have hF : ∀ w', Keep [] w w' → w'.cell? ⟨b, 11, none⟩ = some (.int .i64 (optI s.held)) ∧ True := fun w' k => ⟨(h.keep0 k).c11, trivial⟩
  clear h
  generalize optI s.held = ed at *
  go_enter Tryd.func9, Tryd.ntmps9
  go_wp2
  refine wp_region_flow (Keep [] w) rfl (by kernel_rfl) (Keep.refl _ _).drew ?_
  (refine fl_val (v := ?_) (by rfl) ?_ ?_; rotate_left; (intro w' hS; obtain ⟨f1,f2⟩ := hF w' hS; go_simp; with_reducible rfl); simp only [Act.put, List.setIfInBounds_toArray, List.set_cons_zero, List.set_cons_succ])
  (refine fl_val (v := ?_) (by rfl) ?_ ?_; rotate_left; (intro w' hS; obtain ⟨f1,f2⟩ := hF w' hS; go_simp; with_reducible rfl); simp only [Act.put, List.setIfInBounds_toArray, List.set_cons_zero, List.set_cons_succ])
  (refine fl_val (v := ?_) (by rfl) ?_ ?_; rotate_left; (intro w' hS; obtain ⟨f1,f2⟩ := hF w' hS; go_simp; with_reducible rfl); simp only [Act.put, List.setIfInBounds_toArray, List.set_cons_zero, List.set_cons_succ])
  (refine fl_val (v := ?_) (by rfl) ?_ ?_; rotate_left; (intro w' hS; obtain ⟨f1,f2⟩ := hF w' hS; go_simp; with_reducible rfl); simp only [Act.put, List.setIfInBounds_toArray, List.set_cons_zero, List.set_cons_succ])
  refine fl_val (v := .int .i64 (max ed 0)) (by rfl) (fun w' _ => run_max rfl rfl) ?_
  simp only [Act.put, List.setIfInBounds_toArray, List.set_cons_zero, List.set_cons_succ]
  repeat (refine fl_val (v := ?_) (by rfl) ?_ ?_; rotate_left; (intro w' hS; obtain ⟨f1,f2⟩ := hF w' hS; go_simp; with_reducible rfl); simp only [Act.put, List.setIfInBounds_toArray, List.set_cons_zero, List.set_cons_succ])
  refine fl_nil ?_
  intro w4 hS
  clear hF
  go_wp2
  go_ret2
  exact ⟨rfl, hS⟩
end
end Go.Proofs.YteflgdnekflbbaaDoor
