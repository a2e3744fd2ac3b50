/- What an engine tells of its mode, its classes, what may come, what counts; walked. No condition. What an engine is behind a call; the end of a change; walked. No condition. The coming of a mode; walked. Condition: what over does then. Waiting; walked. Condition: what come does then. -/
import Derived.Test.YteflgdnekflbbaaDoorEng
import Derived.Test.YteflgdnekflbbaaDoorWinT
import Derived.Test.YteflgdnekflbbaaDoorFldRun
import Derived.Test.YteflgdnekflbbaaDoorRangeB
namespace Go.Proofs.YteflgdnekflbbaaDoor
open Go.RowKit
attribute [local go_sem] Oper.semAt_some

set_option maxRecDepth 100000 in
theorem field_same (c : Cls) (W : World) : (Instr.field 114 (.agg (clsCells c).toArray) 2).run Tryd.prog W = .ok (.int .u32 (c.same : Int)) W :=
  run_field_one Tryd.underlying114 rfl Tryd.underlying36 rfl (by kernel_rfl) rfl W
set_option maxRecDepth 100000 in
theorem field_new (c : Cls) (W : World) : (Instr.field 114 (.agg (clsCells c).toArray) 1).run Tryd.prog W = .ok (.int .u32 (c.new : Int)) W :=
  run_field_one Tryd.underlying114 rfl Tryd.underlying36 rfl (by kernel_rfl) rfl W
section
variable {w : World} {b : Nat} {v : ImgV} {x : Img} {vc : CrtV} {c : Crt} {s : EnS} {bs : List Nat}
theorem EngAt.edge1 (h : EngAt w b v x vc c s bs) {k : Nat} (hk : k < x.edges.length) : ∃ bb o, v.ea = some ⟨bb, o, none⟩ ∧ ∀ w', Keep [] w w' → CellsAt w' bb (o + k * 23) (edgCells (edg x k)) := by
  obtain ⟨bb, o, hA, hb, hc⟩ := h.im.edge (by omega)
  refine ⟨bb, o, hA, fun w' kk => ?_⟩
  have e : edg x k = x.edges[k] := by unfold edg; rw [List.getElem?_eq_getElem hk]; rfl
  rw [e]
  exact (hc k hk).keep0 kk hb
theorem clsE_eq (x : Img) {k : Nat} (hk : k < x.edges.length) : clsE x k = clsOf (setOf10 x (edg x k).frm) (setOf10 x (edg x k).to) := by
  unfold clsE edg
  rw [List.getElem?_eq_getElem hk]
  rfl
variable (h : EngAt w b v x vc c s bs)
include h
theorem etarget0_any (he : s.edge = none) : Calls Tryd.prog 19 #[.pointer (some ⟨b, 0, none⟩)] w fun e w' => e = .returned (.int .i64 (s.mode : Int)) ∧ Keep [] w w' := by
  have c6 := h.c6
  have c7 := h.c7
  rw [he] at c7
  have c7' : w.cell? ⟨b, 7, none⟩ = some (.int .i64 (-1)) := c7
  clear h c7
  go_enter Tryd.func19, Tryd.ntmps19
  go_wp2
  go_ret
  exact ⟨rfl, Keep.refl _ _⟩
set_option maxRecDepth 100000 in
theorem etarget1_any {k : Nat} (he : s.edge = some k) (hk : k < x.edges.length) : Calls Tryd.prog 19 #[.pointer (some ⟨b, 0, none⟩)] w fun e w' => e = .returned (.int .i64 (edg x k).to) ∧ Keep [] w w' := by
  obtain ⟨bb, o, hA, hc⟩ := h.edge1 hk
  have hl := h.im.le
  unfold maxLen at hl
  have hF : ∀ w', Keep [] w w' → w'.cell? ⟨b, 7, none⟩ = some (.int .i64 (k : Int)) ∧ w'.cell? ⟨b, 3, none⟩ = some (.slice (some ⟨bb, o, none⟩) x.edges.length v.ec) ∧ w'.cell? ⟨bb, o + k * 23 + 1, none⟩ = some (.int .i64 (edg x k).to) := fun w' kk => by
    refine ⟨?_, ?_, (hc w' kk) 1 _ rfl⟩
    · rw [(h.keep0 kk).c7, he]; rfl
    · rw [(h.keep0 kk).c3, hA]
  have c7 := (hF w (Keep.refl _ _)).1
  have p0 : (0 : Int) ≤ (k : Int) := by omega
  have p1 : (k : Int) < (x.edges.length : Int) := by omega
  clear h hc
  go_enter Tryd.func19, Tryd.ntmps19
  go_wp2
  refine wp_region_flow (Keep [] w) rfl (by kernel_rfl) (Keep.refl _ _).drew ?_
  repeat (refine fl_val (v := ?_) (by rfl) ?_ ?_; rotate_left; (intro w' hS; obtain ⟨f1,f2,f3⟩ := hF w' hS; go_simp; with_reducible rfl); simp only [Act.put, List.setIfInBounds_toArray, List.set_cons_zero, List.set_cons_succ])
  refine fl_nil ?_
  intro w4 hS
  clear hF
  go_wp2
  go_ret
  exact ⟨rfl, hS⟩
set_option maxRecDepth 100000 in
theorem eclasses_any {k : Nat} (he : s.edge = some k) (hk : k < x.edges.length) : Calls Tryd.prog 49 #[.pointer (some ⟨b, 0, none⟩)] w fun e w' => e = .returned (.agg (clsCells (clsE x k)).toArray) ∧ Keep [] w w' := by
  obtain ⟨W0, hW0⟩ : ∃ W0, w.alloc (.cells #[.int .u32 0, .int .u32 0, .int .u32 0] 114) = W0 := ⟨_, rfl⟩
  have b0 : Blk W0 w.heap.size 114 #[.int .u32 0, .int .u32 0, .int .u32 0] := by rw [← hW0]; exact Blk.new _ _ _
  have K0 : Keep [] w W0 := by rw [← hW0]; exact (Keep.refl _ w).alloc _
  have hF : ∀ w', Keep [] W0 w' → w'.cell? ⟨b, 7, none⟩ = some (.int .i64 (k : Int)) ∧ True := fun w' kk => by
    refine ⟨?_, trivial⟩
    rw [(h.keep0 (K0.then kk)).c7, he]; rfl
  have HCA : ∀ w', Keep [] W0 w' → CellsAt w' b 0 (imgCells v x) := fun w' kk => (h.keep0 (K0.then kk)).ci
  have HC := fun w' kk => Lib.hid (clsEdge_any v x k w' ((h.keep0 (K0.then kk)).im) hk)
  have B0 := Lib.hid b0
  have HW := Lib.hid hW0
  have HIL : Hid ((imgCells v x).length = 4) := show _ = _ from rfl
  clear h b0 hW0
  generalize imgCells v x = il at *
  generalize clsE x k = ce at *
  go_enter Tryd.func49, Tryd.ntmps49
  go_wp2_with (rw [HW.out])
  refine wp_region_flow_tail 9 (Keep [] W0) rfl (by kernel_rfl) (Keep.refl _ _).drew ?_
  (refine fl_val (v := ?_) (by rfl) ?_ ?_; rotate_left; (intro w' hS; obtain ⟨f1,f2⟩ := hF w' hS; go_simp; with_reducible rfl); simp only [Act.put, List.setIfInBounds_toArray, List.set_cons_zero, List.set_cons_succ])
  (refine fl_val (v := ?_) (by rfl) ?_ ?_; rotate_left; (intro w' hS; obtain ⟨f1,f2⟩ := hF w' hS; go_simp; with_reducible rfl); simp only [Act.put, List.setIfInBounds_toArray, List.set_cons_zero, List.set_cons_succ])
  (refine fl_val (v := ?_) (by rfl) ?_ ?_; rotate_left; (intro w' hS; obtain ⟨f1,f2⟩ := hF w' hS; go_simp; with_reducible rfl); simp only [Act.put, List.setIfInBounds_toArray, List.set_cons_zero, List.set_cons_succ])
  refine fl_agg 26 (.tmp 5) il rfl rfl rfl (by rw [HIL.out]; exact agg_image) HCA ?_
  simp only [Act.put, List.setIfInBounds_toArray, List.set_cons_zero, List.set_cons_succ]
  (refine fl_val (v := ?_) (by rfl) ?_ ?_; rotate_left; (intro w' hS; obtain ⟨f1,f2⟩ := hF w' hS; go_simp; with_reducible rfl); simp only [Act.put, List.setIfInBounds_toArray, List.set_cons_zero, List.set_cons_succ])
  (refine fl_val (v := ?_) (by rfl) ?_ ?_; rotate_left; (intro w' hS; obtain ⟨f1,f2⟩ := hF w' hS; go_simp; with_reducible rfl); simp only [Act.put, List.setIfInBounds_toArray, List.set_cons_zero, List.set_cons_succ])
  (refine fl_val (v := ?_) (by rfl) ?_ ?_; rotate_left; (intro w' hS; obtain ⟨f1,f2⟩ := hF w' hS; go_simp; with_reducible rfl); simp only [Act.put, List.setIfInBounds_toArray, List.set_cons_zero, List.set_cons_succ])
  (refine fl_val (v := ?_) (by rfl) ?_ ?_; rotate_left; (intro w' hS; obtain ⟨f1,f2⟩ := hF w' hS; go_simp; with_reducible rfl); simp only [Act.put, List.setIfInBounds_toArray, List.set_cons_zero, List.set_cons_succ])
  refine fl_call (f := 42) (v := .agg (clsCells ce).toArray) (by rfl) rfl (by simp only [List.map_toArray, List.map_cons, List.map_nil]; rfl) Tryd.func42 (by kernel_rfl) (by kernel_rfl) (fun w' hS => ((HC w' hS).out.mono (fun e w'' h => ⟨h.1, hS.then h.2⟩))) ?_; simp only [Act.put, List.setIfInBounds_toArray, List.set_cons_zero, List.set_cons_succ]
  refine fl_nil ?_
  intro w4 hS
  refine wpList_store_all rfl 114 (.tmp 2) (.tmp 11) rfl rfl rfl (vs := clsCells ce) (by kernel_rfl) (B0.out.keep0 hS) (by simp [clsCells, Value.oneCell']) rfl ?_
  intro w5 d5 k5
  have hsz := K0.size
  have K5 : Keep [] w w5 := (K0.then hS).trans k5 (fun y hy hlt => by simp at hy; omega)
  go_wp2
  refine bodyPost_ret (results_blk rfl _ rfl d5 agg_cls) rfl ?_
  exact ⟨rfl, K5⟩
end
end Go.Proofs.YteflgdnekflbbaaDoor

namespace Go.Proofs.YteflgdnekflbbaaDoor
open Go.RowKit
attribute [local go_sem] Oper.semAt_some

section
variable {w w' : World} {b : Nat} {v : ImgV} {x : Img} {vc : CrtV} {c : Crt} {s s' : EnS} {bs bs' : List Nat}
theorem TqAt.put {t f : Nat} {cs : Array Value} {L : List (Nat × Nat)} (h : TqAt w b t f cs L bs) {i : Nat} (hi : i ≠ f ∧ i ≠ f + 1) (u : Value) : TqAt (w.setCell ⟨b, i, none⟩ u) b t f (cs.setIfInBounds i u) L bs := by
  obtain ⟨A, h1, h2⟩ := h.ptr
  refine ⟨h.blk.set_ i u, ⟨A, ?_, h2.same (fun y hy => Below.heap_setCell _ _ _ _ (fun e => h.off (by simp at e; rw [← e]; exact hy)))⟩, ?_, h.nodup, h.off, h.sort, h.le⟩
  · rw [Array.getElem?_setIfInBounds_ne hi.1]; exact h1
  · rw [Array.getElem?_setIfInBounds_ne hi.2]; exact h.many
theorem EngAt.next (h : EngAt w b v x vc c s bs) (k : Keep (b :: bs) w w') (hq : ∃ A, TqAt w' b 69 13 (engL v x vc c s' A).toArray s'.tm bs') (hb : ∀ y ∈ bs', y ∈ bs ∨ w.heap.size ≤ y) : EngAt w' b v x vc c s' bs' := by
  have hs : ∀ y, y ∈ b :: bs' → y < w.heap.size → y ∈ b :: bs := fun y hy hl => by
    rcases List.mem_cons.1 hy with rfl | hy
    · exact List.mem_cons_self
    · rcases hb y hy with hy | hy
      · exact List.mem_cons_of_mem _ hy
      · omega
  exact ⟨hq, fun w2 k2 => h.img w2 (k.trans k2 hs), fun w2 k2 => h.crt w2 (k.trans k2 hs), fun w2 k2 => h.tab w2 (k.trans k2 hs)⟩
theorem EngAt.put (h : EngAt w b v x vc c s bs) {i : Nat} {u : Value} (hi : i ≠ 13 ∧ i ≠ 14) (hc : ∀ A, (engL v x vc c s A).toArray.setIfInBounds i u = (engL v x vc c s' A).toArray) (ht : s'.tm = s.tm) : EngAt (w.setCell ⟨b, i, none⟩ u) b v x vc c s' bs := by
  obtain ⟨A, h1⟩ := h.tq
  refine h.next (Keep.setCell (Keep.refl (b :: bs) w) (p := ⟨b, i, none⟩) (fun _ => List.mem_cons_self) u) ⟨A, ?_⟩ (fun y hy => .inl hy)
  have := h1.put hi u
  rw [hc A] at this
  rw [ht]
  exact this
theorem EngAt.drew (h : EngAt w b v x vc c s bs) : EngAt w.drew b v x vc c s bs := h.keep0 (Keep.refl _ _).drew
end
set_option maxRecDepth 100000 in
theorem build_over (k m : Int) (w : World) : (Instr.build 63 #[(2, .bool true), (3, .int .i64 k), (4, .int .i64 m)]).run Tryd.prog w = .ok (.agg #[.bool false, .bool false, .bool true, .int .i64 k, .int .i64 m, .int .i64 0]) w := by kernel_rfl
set_option maxRecDepth 100000 in
theorem build_came (k m t : Int) (w : World) : (Instr.build 63 #[(1, .bool true), (3, .int .i64 k), (4, .int .i64 m), (5, .int .i64 t)]).run Tryd.prog w = .ok (.agg #[.bool false, .bool true, .bool false, .int .i64 k, .int .i64 m, .int .i64 t]) w := by kernel_rfl
set_option maxRecDepth 100000 in
theorem build_began (k m : Int) (w : World) : (Instr.build 63 #[(0, .bool true), (3, .int .i64 k), (4, .int .i64 m)]).run Tryd.prog w = .ok (.agg #[.bool true, .bool false, .bool false, .int .i64 k, .int .i64 m, .int .i64 0]) w := by kernel_rfl
def newsV (L : List Nw) : List Value := L.flatMap nwCells
theorem newsV_len (L : List Nw) : (newsV L).length = L.length * 6 := by
  unfold newsV
  rw [List.length_flatMap]
  induction L with
  | nil => rfl
  | cons a l ih => rw [List.map_cons, List.sum_cons, ih, List.length_cons]; simp [nwCells]; omega
theorem own_news1 {w : World} {B g : Nat} (n : Nw) (h : Blk w g 63 (nwCells n).toArray) (hB : B ≤ g) : w.ownsRow B 63 6 (.slice (some ⟨g, 0, none⟩) 1 1) 1 (newsV [n]) :=
  ⟨rfl, .inr ⟨g, 1, _, rfl, hB, h, Nat.le_refl _, by decide, rfl, rfl⟩⟩
/-- What is behind a call: the news, and the engine. -/
def RetE (w : World) (b : Nat) (v : ImgV) (x : Img) (vc : CrtV) (c : Crt) (bs : List Nat) (r : EnS × List Nw) (e : Ending) (w' : World) : Prop :=
  ∃ A p bs', e = .returned (.slice A r.2.length p) ∧ w'.ownsRow w.heap.size 63 6 (.slice A r.2.length p) r.2.length (newsV r.2) ∧ EngAt w' b v x vc c r.1 bs' ∧ (∀ y ∈ bs', y ∈ bs ∨ w.heap.size ≤ y) ∧ Keep (b :: bs) w w'
section
variable {w : World} {b : Nat} {v : ImgV} {x : Img} {vc : CrtV} {c : Crt} {s : EnS} {bs : List Nat} (h : EngAt w b v x vc c s bs)
include h
set_option maxRecDepth 100000 in

theorem eover0_any {k : Nat} (he : s.edge = some k) (hh : s.held = none) (live : Nat) : Calls Tryd.prog 23 #[.pointer (some ⟨b, 0, none⟩), .int .u32 (live : Int)] w (RetE w b v x vc c bs (over0 s)) := by
  have hF : ∀ w', Keep [] w w' → w'.cell? ⟨b, 7, none⟩ = some (.int .i64 (k : Int)) ∧ w'.cell? ⟨b, 6, none⟩ = some (.int .i64 (s.mode : Int)) := fun w' kk => by
    refine ⟨?_, (h.keep0 kk).c6⟩
    rw [(h.keep0 kk).c7, he]; rfl
  have HE := Lib.hid h
  have HN : Hid ((over0 s).2 = [⟨3, k, s.mode, 0⟩]) := by show _ = _; unfold over0; rw [he]; rfl
  have HV : Hid (nwCells ⟨3, k, s.mode, 0⟩ = [.bool false, .bool false, .bool true, .int .i64 (k : Int), .int .i64 (s.mode : Int), .int .i64 0]) := show _ = _ from rfl
  have hbd := fun W => build_over (k : Int) (s.mode : Int) W
  clear h
  generalize (s.mode : Int) = md at *
  go_enter Tryd.func23, Tryd.ntmps23
  go_wp2
  refine wp_region_flow_tail 9 (Keep [] w) rfl (by kernel_rfl) (Keep.refl _ _).drew ?_
  repeat (refine fl_val (v := ?_) (by rfl) ?_ ?_; rotate_left; (intro w' hS; obtain ⟨f1,f2⟩ := hF w' hS; go_simp; with_reducible rfl); simp only [Act.put, List.setIfInBounds_toArray, List.set_cons_zero, List.set_cons_succ])
  refine fl_nil ?_
  intro w4 hS
  clear hF hbd
  refine wpList_runsC rfl (exec_slice_oneC slice_news (cs := nwCells ⟨3, k, s.mode, 0⟩) rfl (by decide) (congrArg (fun l => Value.agg (List.toArray l)) HV.out.symm) _) ?_
  have E5 := (HE.out.keep0 hS).keep0 ((Keep.refl [] w4).alloc (.cells (nwCells ⟨3, k, s.mode, 0⟩).toArray 63))
  have B5 := Blk.new w4 63 (nwCells ⟨3, k, s.mode, 0⟩).toArray
  have K5 := hS.alloc (.cells (nwCells ⟨3, k, s.mode, 0⟩).toArray 63)
  have hsz := hS.size
  have hbn := Nat.lt_of_lt_of_le HE.out.lt hsz
  generalize w4.alloc (.cells (nwCells ⟨3, k, s.mode, 0⟩).toArray 63) = w5 at *
  have c7 := E5.c7
  have c8 := E5.c8
  have c12 := E5.c12
  have f7 := E5.fr 7
  have f8 := E5.fr 8
  have f12 := E5.fr 12
  have c11 := E5.c11
  rw [hh] at c11
  have c11' : w5.cell? ⟨b, 11, none⟩ = some (.int .i64 (-1)) := c11
  have E6 := Lib.hid (((E5.put (i := 8) (u := .int .i64 0) (s' := { s with ph := 0 }) (by decide) (fun A => rfl) rfl).put (i := 7) (u := .int .i64 (-1)) (s' := { s with ph := 0, edge := none }) (by decide) (fun A => rfl) rfl).put (i := 12) (u := .int .u32 0) (s' := (over0 s).1) (by decide) (fun A => rfl) rfl)
  have O6 := Lib.hid (((B5.far (p := ⟨b, 8, none⟩) (by simp; omega) (.int .i64 0)).far (p := ⟨b, 7, none⟩) (by simp; omega) (.int .i64 (-1))).far (p := ⟨b, 12, none⟩) (by simp; omega) (.int .u32 0))
  have K6 := Lib.hid ((((K5.mono (G := b :: bs) (by simp)).setCell (p := ⟨b, 8, none⟩) (fun _ => List.mem_cons_self) (.int .i64 0)).setCell (p := ⟨b, 7, none⟩) (fun _ => List.mem_cons_self) (.int .i64 (-1))).setCell (p := ⟨b, 12, none⟩) (fun _ => List.mem_cons_self) (.int .u32 0))
  clear E5 B5 K5 hS HE c11
  go_wp2
  go_ret
  refine ⟨some ⟨w4.heap.size, 0, none⟩, 1, bs, rfl, ?_, E6.out, fun y hy => .inl hy, K6.out⟩
  rw [HN.out]
  exact own_news1 _ O6.out hsz
end
end Go.Proofs.YteflgdnekflbbaaDoor

namespace Go.Proofs.YteflgdnekflbbaaDoor
open Go.RowKit
attribute [local go_sem] Oper.semAt_some

theorem addr_ne {g b : Nat} (h : g ≠ b) (i j : Nat) : (⟨g, i, none⟩ : Addr) ≠ ⟨b, j, none⟩ := fun e => h (by injection e)
theorem newsV_one (L : List Nw) : ∀ u ∈ newsV L, u.oneCell' = true := fun u hu => by
  obtain ⟨n, _, hn⟩ := List.mem_flatMap.1 hu
  simp only [nwCells, List.mem_cons, List.not_mem_nil, or_false] at hn
  rcases hn with rfl | rfl | rfl | rfl | rfl | rfl <;> rfl
theorem TqAt.keep {w w' : World} {F : List Nat} {g t f : Nat} {cs : Array Value} {L : List (Nat × Nat)} {bs : List Nat} (h : TqAt w g t f cs L bs) (k : Keep F w w') (hg : g ∉ F) (hF : ∀ y ∈ bs, y ∉ F) : TqAt w' g t f cs L bs := by
  obtain ⟨A, h1, h2⟩ := h.ptr
  exact ⟨h.blk.keep k hg, ⟨A, h1, h2.keep k hF⟩, h.many, h.nodup, h.off, h.sort, h.le⟩
section
variable {w w' w2 : World} {b : Nat} {v : ImgV} {x : Img} {vc : CrtV} {c : Crt} {s s' : EnS} {bs bs2 : List Nat}
theorem EngAt.lts (h : EngAt w b v x vc c s bs) : ∀ y ∈ bs, y < w.heap.size := by
  obtain ⟨A, q⟩ := h.tq
  obtain ⟨A', _, q2⟩ := q.ptr
  exact q2.lt
theorem EngAt.aside (h : EngAt w b v x vc c s bs) (h2 : EngAt w' b v x vc c s' bs2) (k : Keep (b :: bs) w w') (hb : ∀ y ∈ bs2, y ∈ bs ∨ w.heap.size ≤ y) {F : List Nat} (k2 : Keep F w' w2) (hF : ∀ y ∈ F, w.heap.size ≤ y ∧ y ∉ bs2) : EngAt w2 b v x vc c s' bs2 := by
  obtain ⟨A, q⟩ := h2.tq
  have hl := h.lt
  refine h.next (k.trans k2 (fun y hy hlt => by have := (hF y hy).1; omega)) ⟨A, q.keep k2 (fun hm => by have := (hF b hm).1; omega) (fun y hy hm => (hF y hm).2 hy)⟩ hb
theorem EngAt.timed {A : Option Addr} {L' : List (Nat × Nat)} (h : EngAt w b v x vc c s bs) (hp : TqPost w b 69 13 (engL v x vc c s A).toArray L' bs w') : ∃ bs', EngAt w' b v x vc c { s with tm := L' } bs' ∧ (∀ y ∈ bs', y ∈ bs ∨ w.heap.size ≤ y) ∧ Keep (b :: bs) w w' := by
  obtain ⟨A', bs', q, hb, k⟩ := hp
  exact ⟨bs', h.next k ⟨A', q⟩ hb, hb, k⟩
end
section
variable {w : World} {b : Nat} {v : ImgV} {X : ChX} {vc : CrtV} {c : Crt} {s : EnS} {bs : List Nat} (h : EngAt w b v X.x vc c s bs)
include h
set_option maxRecDepth 100000 in
theorem ecome_any {k : Nat} (he : s.edge = some k) (hk : k < X.x.edges.length) (hkc : k < c.edges.length) (hst : c.edges[k].2 = (X.st k : Int)) (hsl : X.st k ≤ 65536) (hto : (edg X.x k).to = (eTo X.x k : Int)) (htm : s.tm = []) (hpast : s.since ≤ s.now) (hnow : s.now < 4611686018427387904) (live : Nat)
    (ov : EnS → EnS × List Nw) (hvl : (ov { s with mode := eTo X.x k, ph := 4 }).2.length ≤ 100) (hov : ∀ w1 bs1, EngAt w1 b v X.x vc c { s with mode := eTo X.x k, ph := 4 } bs1 → Calls Tryd.prog 23 #[.pointer (some ⟨b, 0, none⟩), .int .u32 (live : Int)] w1 (RetE w1 b v X.x vc c bs1 (ov { s with mode := eTo X.x k, ph := 4 }))) :
    Calls Tryd.prog 22 #[.pointer (some ⟨b, 0, none⟩), .int .u32 (live : Int)] w (RetE w b v X.x vc c bs (comeW X ov s)) := by
  obtain ⟨r, hr⟩ : ∃ r, ov { s with mode := eTo X.x k, ph := 4 } = r := ⟨_, rfl⟩
  rw [hr] at hvl
  simp only [hr] at hov
  have HR := Lib.hid hr
  clear hr
  obtain ⟨eb, eo, hA, hc⟩ := h.edge1 hk
  have hl := h.im.le
  unfold maxLen at hl
  have hF : ∀ w', Keep [] w w' → w'.cell? ⟨b, 7, none⟩ = some (.int .i64 (k : Int)) ∧ w'.cell? ⟨b, 3, none⟩ = some (.slice (some ⟨eb, eo, none⟩) X.x.edges.length v.ec) ∧ w'.cell? ⟨eb, eo + k * 23 + 1, none⟩ = some (.int .i64 (eTo X.x k : Int)) := fun w' kk => by
    refine ⟨?_, ?_, ?_⟩
    · rw [(h.keep0 kk).c7, he]; rfl
    · rw [(h.keep0 kk).c3, hA]
    · rw [← hto]; exact (hc w' kk) 1 _ rfl
  have p0 : (0 : Int) ≤ (k : Int) := by omega
  have p1 : (k : Int) < (X.x.edges.length : Int) := by omega
  have hw : IntKind.i64.wrap ((s.now : Int) - (s.since : Int)) = ((s.now - s.since : Nat) : Int) := by rw [IntWalk.i64_in _ (by omega)]; omega
  have HV : Hid (nwCells ⟨2, k, eTo X.x k, s.now - s.since⟩ = [.bool false, .bool true, .bool false, .int .i64 (k : Int), .int .i64 (eTo X.x k : Int), .int .i64 ((s.now - s.since : Nat) : Int)]) := show _ = _ from rfl
  have HE := Lib.hid h
  have HOV := Lib.hid hov
  have hbl := Lib.hid h.lts
  clear h hc hov
  go_enter Tryd.func22, Tryd.ntmps22
  go_wp2
  refine wp_region_flow_tail 15 (Keep [] w) rfl (by kernel_rfl) (Keep.refl _ _).drew ?_
  repeat (refine fl_val (v := ?_) (by rfl) ?_ ?_; rotate_left; (intro w' hS; obtain ⟨f1,f2,f3⟩ := hF w' hS; go_simp; with_reducible rfl); simp only [Act.put, List.setIfInBounds_toArray, List.set_cons_zero, List.set_cons_succ])
  refine fl_nil ?_
  intro w4 hS
  clear hF
  have E4 := HE.out.keep0 hS
  have c6 := E4.c6
  have f6 := E4.fr 6
  have E5 := E4.put (i := 6) (u := .int .i64 (eTo X.x k : Int)) (s' := { s with mode := eTo X.x k }) (by decide) (fun A => rfl) rfl
  have K5 := (hS.mono (G := b :: bs) (by simp)).setCell (p := ⟨b, 6, none⟩) (fun _ => List.mem_cons_self) (.int .i64 (eTo X.x k : Int))
  have E5h := Lib.hid E5
  have K5h := Lib.hid K5
  clear E4 E5 K5 hS
  go_upto_region 2 with fail
  generalize w4.setCell ⟨b, 6, none⟩ (.int .i64 (eTo X.x k : Int)) = w5 at *
  have hF : ∀ w', Keep [] w5 w' → w'.cell? ⟨b, 7, none⟩ = some (.int .i64 (k : Int)) ∧ w'.cell? ⟨b, 6, none⟩ = some (.int .i64 (eTo X.x k : Int)) ∧ w'.cell? ⟨b, 10, none⟩ = some (.int .i64 (s.now : Int)) ∧ w'.cell? ⟨b, 9, none⟩ = some (.int .i64 (s.since : Int)) := fun w' kk => by
    have E := E5h.out.keep0 kk
    refine ⟨?_, E.c6, E.c10, E.c9⟩
    rw [E.c7]
    show some (Value.int .i64 (optI s.edge)) = _
    rw [he]; rfl
  have hbd := fun W => build_came (k : Int) (eTo X.x k : Int) ((s.now - s.since : Nat) : Int) W
  clear c6 f6
  generalize ((s.now - s.since : Nat) : Int) = dn at *
  refine wp_region_flow_tail 18 (Keep [] w5) rfl (by kernel_rfl) (Keep.refl _ _).drew ?_
  repeat (refine fl_val (v := ?_) (by rfl) ?_ ?_; rotate_left; (intro w' hS; obtain ⟨f1,f2,f3,f4⟩ := hF w' hS; go_simp; with_reducible rfl); simp only [Act.put, List.setIfInBounds_toArray, List.set_cons_zero, List.set_cons_succ])
  refine fl_nil ?_
  intro w6 hS
  clear hF hbd
  refine wpList_runsC rfl (exec_slice_oneC slice_news (cs := nwCells ⟨2, k, eTo X.x k, s.now - s.since⟩) rfl (by decide) (congrArg (fun l => Value.agg (List.toArray l)) HV.out.symm) _) ?_
  have E7 := (E5h.out.keep0 hS).keep0 ((Keep.refl [] w6).alloc (.cells (nwCells ⟨2, k, eTo X.x k, s.now - s.since⟩).toArray 63))
  have B7 := Blk.new w6 63 (nwCells ⟨2, k, eTo X.x k, s.now - s.since⟩).toArray
  have K7 := (K5h.out.then hS).alloc (.cells (nwCells ⟨2, k, eTo X.x k, s.now - s.since⟩).toArray 63)
  have hg1 : w.heap.size ≤ w6.heap.size := Nat.le_trans K5h.out.size hS.size
  have hbn := HE.out.lt
  generalize w6.alloc (.cells (nwCells ⟨2, k, eTo X.x k, s.now - s.since⟩).toArray 63) = w7 at *
  generalize w6.heap.size = g1 at *
  have E7h := Lib.hid E7
  have K7h := Lib.hid K7
  have B7h := Lib.hid B7
  clear E7 K7 B7 hS E5h K5h
  go_upto_region 3 with fail
  have hF : ∀ w', Keep [] w7 w' → w'.cell? ⟨b, 7, none⟩ = some (.int .i64 (k : Int)) ∧ True := fun w' kk => by
    refine ⟨?_, trivial⟩
    rw [(E7h.out.keep0 kk).c7]
    show some (Value.int .i64 (optI s.edge)) = _
    rw [he]; rfl
  have HCA : ∀ w', Keep [] w7 w' → CellsAt w' b 4 (crtCells vc c) := fun w' kk => (E7h.out.keep0 kk).cc
  have HCE := fun w' (kk : Keep [] w7 w') => Lib.hid (cedge_any vc c k w' ((E7h.out.keep0 kk).ce) hkc)
  have HIL : Hid ((crtCells vc c).length = 2) := show _ = _ from rfl
  have HST := Lib.hid hst
  clear p0 p1 hl hto hw hst
  generalize c.edges[k].1 = s1 at *
  generalize c.edges[k].2 = s2 at *
  generalize crtCells vc c = cl at *
  refine ap_begin 14 (Keep [] w7) rfl (Keep.refl _ _).drew (fun hS hPan => ?_) (fun _ _ d _ _ h => by cases d <;> exact h)
  (refine ap_val (v := ?_) 0 rfl (by kernel_rfl) (by kernel_rfl) (by kernel_rfl) (by kernel_rfl) (by rfl) hPan ?_ hS ?_; rotate_left; (intro w' hSw; go_simp; try with_reducible rfl); simp only [Act.put, List.setIfInBounds_toArray, List.set_cons_zero, List.set_cons_succ])
  (refine ap_val (v := ?_) 1 rfl (by kernel_rfl) (by kernel_rfl) (by kernel_rfl) (by kernel_rfl) (by rfl) hPan ?_ hS ?_; rotate_left; (intro w' hSw; go_simp; try with_reducible rfl); simp only [Act.put, List.setIfInBounds_toArray, List.set_cons_zero, List.set_cons_succ])
  (refine ap_val (v := ?_) 2 rfl (by kernel_rfl) (by kernel_rfl) (by kernel_rfl) (by kernel_rfl) (by rfl) hPan ?_ hS ?_; rotate_left; (intro w' hSw; go_simp; try with_reducible rfl); simp only [Act.put, List.setIfInBounds_toArray, List.set_cons_zero, List.set_cons_succ])
  refine ap_agg 3 54 (.tmp 45) cl rfl (by kernel_rfl) (by kernel_rfl) (by kernel_rfl) (by kernel_rfl) (by rfl) hPan rfl rfl (by rw [HIL.out]; exact agg_cert) HCA hS ?_
  (simp only [Act.put, List.setIfInBounds_toArray, List.set_cons_zero, List.set_cons_succ])
  (refine ap_val (v := ?_) 4 rfl (by kernel_rfl) (by kernel_rfl) (by kernel_rfl) (by kernel_rfl) (by rfl) hPan ?_ hS ?_; rotate_left; (intro w' hSw; go_simp; try with_reducible rfl); simp only [Act.put, List.setIfInBounds_toArray, List.set_cons_zero, List.set_cons_succ])
  (refine ap_val (v := ?_) 5 rfl (by kernel_rfl) (by kernel_rfl) (by kernel_rfl) (by kernel_rfl) (by rfl) hPan ?_ hS ?_; rotate_left; (intro w' hSw; go_simp; try with_reducible rfl); simp only [Act.put, List.setIfInBounds_toArray, List.set_cons_zero, List.set_cons_succ])
  (refine ap_val (v := ?_) 6 rfl (by kernel_rfl) (by kernel_rfl) (by kernel_rfl) (by kernel_rfl) (by rfl) hPan ?_ hS ?_; rotate_left; (intro w' hSw; go_simp; try with_reducible rfl); simp only [Act.put, List.setIfInBounds_toArray, List.set_cons_zero, List.set_cons_succ])
  (refine ap_val (v := ?_) 7 rfl (by kernel_rfl) (by kernel_rfl) (by kernel_rfl) (by kernel_rfl) (by rfl) hPan ?_ hS ?_; rotate_left; (intro w' hSw; obtain ⟨f1,f2⟩ := hF w' hSw; go_simp; try with_reducible rfl); simp only [Act.put, List.setIfInBounds_toArray, List.set_cons_zero, List.set_cons_succ])
  clear hF HCA
  generalize w7.drew = wd at *
  refine ap_two 8 12 (by kernel_rfl) ?_ ?_
  refine op_call (f := 30) 8 rfl (by rfl) rfl (by simp only [List.map_toArray, List.map_cons, List.map_nil]; rfl) Tryd.func30 (by kernel_rfl) (by kernel_rfl) (HCE _ hS).out ?_
  rintro e2 w8 ⟨rfl, k8⟩
  replace hS := hS.then k8
  refine ⟨_, rfl, fun _ => hS, ?_⟩
  clear k8
  (simp only [Act.put, List.setIfInBounds_toArray, List.set_cons_zero, List.set_cons_succ])
  (refine ap_val (v := ?_) 9 rfl (by kernel_rfl) (by kernel_rfl) (by kernel_rfl) (by kernel_rfl) (by rfl) hPan ?_ hS ?_; rotate_left; (intro w' hSw; go_simp; try with_reducible rfl); simp only [Act.put, List.setIfInBounds_toArray, List.set_cons_zero, List.set_cons_succ])
  (refine ap_val (v := ?_) 10 rfl (by kernel_rfl) (by kernel_rfl) (by kernel_rfl) (by kernel_rfl) (by rfl) hPan ?_ hS ?_; rotate_left; (intro w' hSw; go_simp; try with_reducible rfl); simp only [Act.put, List.setIfInBounds_toArray, List.set_cons_zero, List.set_cons_succ])
  (refine ap_val (v := ?_) 11 rfl (by kernel_rfl) (by kernel_rfl) (by kernel_rfl) (by kernel_rfl) (by rfl) hPan ?_ hS ?_; rotate_left; (intro w' hSw; go_simp; try with_reducible rfl); simp only [Act.put, List.setIfInBounds_toArray, List.set_cons_zero, List.set_cons_succ])
  refine ap_one 12 (by kernel_rfl) ?_
  refine op_run (v := .pointer (some ⟨w8.heap.size, 0, none⟩)) (w' := w8.alloc (.cells #[.int .i64 0, .int .i64 0] 58)) 12 rfl (by rfl) (by go_simp) ?_
  have D9 := Blk.new w8 58 #[.int .i64 0, .int .i64 0]
  have hge := hS.size
  have hS9 := hS.alloc (.cells #[.int .i64 0, .int .i64 0] 58)
  generalize w8.alloc (.cells #[.int .i64 0, .int .i64 0] 58) = w9 at *
  generalize w8.heap.size = gl at *
  refine ⟨fun _ => hS9, ?_⟩
  clear hS
  replace hS := hS9
  clear hS9
  (simp only [Act.put, List.setIfInBounds_toArray, List.set_cons_zero, List.set_cons_succ])
  rotate_left
  refine op_run (v := .pointer (some ⟨wd.heap.size, 0, none⟩)) (w' := wd.alloc (.cells #[.int .i64 0, .int .i64 0] 58)) 12 rfl (by rfl) (by go_simp) ?_
  have D9 := Blk.new wd 58 #[.int .i64 0, .int .i64 0]
  have hge := hS.size
  have hS9 := hS.alloc (.cells #[.int .i64 0, .int .i64 0] 58)
  generalize wd.alloc (.cells #[.int .i64 0, .int .i64 0] 58) = we at *
  generalize wd.heap.size = gl at *
  refine ⟨fun _ => hS9, ?_⟩
  clear hS
  (simp only [Act.put, List.setIfInBounds_toArray, List.set_cons_zero, List.set_cons_succ])
  refine ap_one 8 (by kernel_rfl) ?_
  refine op_call (f := 30) 8 rfl (by rfl) rfl (by simp only [List.map_toArray, List.map_cons, List.map_nil]; rfl) Tryd.func30 (by kernel_rfl) (by kernel_rfl) (HCE _ hS9).out ?_
  rintro e2 w9 ⟨rfl, k8⟩
  have hS := hS9.then k8
  replace D9 := D9.keep0 k8
  refine ⟨_, rfl, fun _ => hS, ?_⟩
  clear k8 hS9
  (simp only [Act.put, List.setIfInBounds_toArray, List.set_cons_zero, List.set_cons_succ])
  (refine ap_val (v := ?_) 9 rfl (by kernel_rfl) (by kernel_rfl) (by kernel_rfl) (by kernel_rfl) (by rfl) hPan ?_ hS ?_; rotate_left; (intro w' hSw; go_simp; try with_reducible rfl); simp only [Act.put, List.setIfInBounds_toArray, List.set_cons_zero, List.set_cons_succ])
  (refine ap_val (v := ?_) 10 rfl (by kernel_rfl) (by kernel_rfl) (by kernel_rfl) (by kernel_rfl) (by rfl) hPan ?_ hS ?_; rotate_left; (intro w' hSw; go_simp; try with_reducible rfl); simp only [Act.put, List.setIfInBounds_toArray, List.set_cons_zero, List.set_cons_succ])
  (refine ap_val (v := ?_) 11 rfl (by kernel_rfl) (by kernel_rfl) (by kernel_rfl) (by kernel_rfl) (by rfl) hPan ?_ hS ?_; rotate_left; (intro w' hSw; go_simp; try with_reducible rfl); simp only [Act.put, List.setIfInBounds_toArray, List.set_cons_zero, List.set_cons_succ])
  rotate_left
  all_goals
    refine ap_one 13 (by kernel_rfl) ?_
    refine op_store_all 13 rfl (by rfl) rfl rfl rfl (vs := [.int .i64 s1, .int .i64 s2]) (by kernel_rfl) D9 (by simp [Value.oneCell']) rfl ?_
    intro w10 d10 k10
    have hS10 : Keep [] w7 w10 := hS.trans k10 (fun y hy hlt => by simp at hy; omega)
    refine ⟨fun _ => hS10, ?_⟩
    (simp only [Act.put, List.setIfInBounds_toArray, List.set_cons_zero, List.set_cons_succ])
    refine ap_one 14 (by kernel_rfl) ?_
    refine op_run (v := .bool true) (w' := w10) 14 rfl (by rfl) (by go_simp) ?_
    refine ⟨fun _ => hS10, ap_done (by kernel_rfl) ?_ _⟩
    (simp only [Act.put, List.setIfInBounds_toArray, List.set_cons_zero, List.set_cons_succ])
    clear hPan k10 D9 hS HCE
    have E10 := E7h.out.keep0 hS10
    have hne : gl ≠ b := by have := E7h.out.lt; omega
    have hgl1 : g1 ≠ b := by omega
    have c8 := E10.c8
    have f8 := E10.fr 8
    have E11 := E10.put (i := 8) (u := .int .i64 4) (s' := { s with mode := eTo X.x k, ph := 4 }) (by decide) (fun A => rfl) rfl
    have R11 := (B7h.out.keep0 hS10).far (p := ⟨b, 8, none⟩) hgl1 (.int .i64 4)
    have D11 := d10.far (p := ⟨b, 8, none⟩) hne (.int .i64 4)
    have K11 := (K7h.out.then hS10).setCell (p := ⟨b, 8, none⟩) (fun _ => List.mem_cons_self) (.int .i64 4)
    have E11h := Lib.hid E11
    have R11h := Lib.hid R11
    have D11h := Lib.hid D11
    have K11h := Lib.hid K11
    clear E10 E11 R11 D11 K11 d10 hS10
    go_upto_region 5 with fail
    generalize w10.setCell ⟨b, 8, none⟩ (.int .i64 4) = w11 at *
    have hF : ∀ w', Keep [] w11 w' → w'.cell? ⟨gl, 1, none⟩ = some (.int .i64 (X.st k : Int)) ∧ True := fun w' kk => by
      refine ⟨?_, trivial⟩
      rw [(D11h.out.keep0 kk).cell, ← HST.out]
      rfl
    clear c8 f8
    have c1 := (hF w11 (Keep.refl _ _)).1
    by_cases hs : 0 < X.st k
    · have p0 : (0 : Int) < (X.st k : Int) := by omega
      have HC : Hid (comeW X ov s = (addE { s with mode := eTo X.x k, ph := 4 } 17 (X.st k), [⟨2, k, eTo X.x k, s.now - s.since⟩])) := by
        show _ = _
        unfold comeW
        rw [he]
        simp only [Option.getD_some]
        rw [if_pos hs]
      have HADD : Hid (∀ w' A, TqAt w' b 69 13 (engL v X.x vc c { s with mode := eTo X.x k, ph := 4 } A).toArray s.tm bs → Calls Tryd.prog 33 #[.pointer (some ⟨b, 13, none⟩), .int .i64 17, .int .i64 (X.st k : Int)] w' fun e w2 => e = .returned (.bool true) ∧ TqPost w' b 69 13 (engL v X.x vc c { s with mode := eTo X.x k, ph := 4 } A).toArray (addR s.tm 17 (X.st k)) bs w2) := fun w' A q =>
        add_any b _ 13 _ _ bs 17 (X.st k) w' q (by rw [htm]; simp) (by omega) (by rw [htm]; decide)
      clear HST
      go_upto_region 6 with fail
      clear c1
      refine wp_region_flow_tail 5 (Keep [] w11) rfl (by kernel_rfl) (Keep.refl _ _).drew ?_
      repeat (refine fl_val (v := ?_) (by rfl) ?_ ?_; rotate_left; (intro w' hS; obtain ⟨f1,f2⟩ := hF w' hS; go_simp; with_reducible rfl); simp only [Act.put, List.setIfInBounds_toArray, List.set_cons_zero, List.set_cons_succ])
      refine fl_nil ?_
      intro w12 hS
      clear hF
      have E12 := E11h.out.keep0 hS
      obtain ⟨A, q⟩ := E12.tq
      have HA := Lib.hid (HADD.out w12 A q)
      have E12h := Lib.hid E12
      have hS12 := Lib.hid hS
      clear E12 q HADD hS
      go_wp2_with (go_at_call 33; refine HA.out.mono ?_; rintro _ w13 ⟨rfl, hq⟩)
      go_ret
      obtain ⟨bs', E13, hb13, k13⟩ := E12h.out.timed hq
      have hg : g1 ∉ b :: bs := fun hm => by
        rcases List.mem_cons.1 hm with hm | hm
        · omega
        · have := hbl.out g1 hm; omega
      have R13 := (R11h.out.keep0 hS12.out).keep k13 hg
      have K12 := K11h.out.then hS12.out
      refine ⟨some ⟨g1, 0, none⟩, 1, bs', ?_, ?_, ?_, fun y hy => (hb13 y hy).imp id (fun hy => Nat.le_trans K12.size hy), K12.trans k13 (fun y hy _ => hy)⟩
      · rw [HC.out]; rfl
      · rw [HC.out]; exact own_news1 _ R13 hg1
      · rw [HC.out]; exact E13
    · have hz : X.st k = 0 := by omega
      have HC : Hid (comeW X ov s = (r.1, ⟨2, k, eTo X.x k, s.now - s.since⟩ :: r.2)) := by
        show _ = _
        have hgk : s.edge.getD 0 = k := by rw [he]; rfl
        unfold comeW
        simp only [hgk]
        rw [if_neg hs, HR.out]
      rw [hz] at c1
      have c1' : w11.cell? ⟨gl, 1, none⟩ = some (.int .i64 0) := c1
      clear HST c1 hF hs
      go_wp2_with (first
        | (go_at_call 23; refine (HOV.out _ _ E11h.out).mono ?_; rintro _ w13 ⟨A13, p13, bs2, rfl, o13, E13, hb13, k13⟩)
        | (refine stop_at 71 rfl ?_))
      constructor
      have hg : g1 ∉ b :: bs := fun hm => by
        rcases List.mem_cons.1 hm with hm | hm
        · omega
        · have := hbl.out g1 hm; omega
      have R13 := R11h.out.keep k13 hg
      have K13 := K11h.out.trans k13 (fun y hy _ => hy)
      have hb13' : ∀ y ∈ bs2, y ∈ bs ∨ w.heap.size ≤ y := fun y hy => (hb13 y hy).imp id (fun hy => Nat.le_trans K11h.out.size hy)
      have hg2 : g1 ∉ bs2 := fun hm => by
        rcases hb13 g1 hm with hm | hm
        · exact hg (List.mem_cons_of_mem _ hm)
        · have := R11h.out.lt; omega
      have hsz := K13.size
      refine wpList_append_reads rfl (.tmp 67) (.tmp 70) 39 rfl slice_news (own_news1 _ R13 hg1) rfl (Reads.of_own o13) rfl (newsV_one _) hsz (by omega) (by unfold maxLen; omega) ?_
      intro v14 w14 o14 k14 _
      obtain ⟨A14, p14, rfl⟩ := own_shape o14
      have E14 := HE.out.aside E13 K13 hb13' k14 (fun y hy => by
        obtain rfl : y = g1 := by simpa [Value.ownBlock] using hy
        exact ⟨hg1, hg2⟩)
      have K14 := K13.trans k14 (fun y hy hlt => by
        obtain rfl : y = g1 := by simpa [Value.ownBlock] using hy
        omega)
      have O14 := Lib.hid o14
      have E14h := Lib.hid E14
      have K14h := Lib.hid K14
      clear o14 k14 E14 K14 o13 E13 k13 K13 R13
      go_wp2_with fail
      go_ret
      refine ⟨A14, p14, bs2, ?_, ?_, ?_, hb13', K14h.out⟩
      · rw [HC.out]; show Ending.returned (.slice A14 (1 + r.2.length) p14) = .returned (.slice A14 (r.2.length + 1) p14); rw [Nat.add_comm]
      · rw [HC.out]
        have := O14.out
        rw [Nat.add_comm] at this
        exact this
      · rw [HC.out]; exact E14h.out
end
end Go.Proofs.YteflgdnekflbbaaDoor

namespace Go.Proofs.YteflgdnekflbbaaDoor
open Go.RowKit
attribute [local go_sem] Oper.semAt_some

theorem RetE.base {w w1 w2 : World} {b : Nat} {v : ImgV} {x : Img} {vc : CrtV} {c : Crt} {bs : List Nat} {r : EnS × List Nw} {e : Ending} (k : Keep [] w w1) (h : RetE w1 b v x vc c bs r e w2) : RetE w b v x vc c bs r e w2 := by
  obtain ⟨A, p, bs', h1, h2, h3, h4, h5⟩ := h
  exact ⟨A, p, bs', h1, ⟨h2.1, h2.2.imp id (fun ⟨g, cap, cur, q1, q2, q3⟩ => ⟨g, cap, cur, q1, Nat.le_trans k.size q2, q3⟩)⟩, h3, fun y hy => (h4 y hy).imp id (fun hy => Nat.le_trans k.size hy), (k.mono (by simp)).trans h5 (fun y hy _ => hy)⟩
section
variable {w : World} {b : Nat} {v : ImgV} {x : Img} {vc : CrtV} {c : Crt} {s : EnS} {bs : List Nat} (h : EngAt w b v x vc c s bs)
include h
set_option maxRecDepth 100000 in
theorem ewait_any (n : Nat) (st : Int) (live : Nat) (hn : n ≤ 65536) (h16 : 16 ∉ s.tm.map Prod.fst) (hl : s.tm.length < 64) (cm : EnS → EnS × List Nw)
    (hcm : n < 1 → ∀ w1, EngAt w1 b v x vc c s bs → Calls Tryd.prog 22 #[.pointer (some ⟨b, 0, none⟩), .int .u32 (live : Int)] w1 (RetE w1 b v x vc c bs (cm s))) :
    Calls Tryd.prog 32 #[.pointer (some ⟨b, 0, none⟩), .agg #[.int .i64 (n : Int), .int .i64 st], .int .u32 (live : Int)] w (RetE w b v x vc c bs (waitE cm s n)) := by
  obtain ⟨W0, hW0⟩ : ∃ W0, w.alloc (.cells #[.int .i64 (n : Int), .int .i64 st] 58) = W0 := ⟨_, rfl⟩
  have b0 : Blk W0 w.heap.size 58 #[.int .i64 (n : Int), .int .i64 st] := by rw [← hW0]; exact Blk.new _ _ _
  have K0 : Keep [] w W0 := by rw [← hW0]; exact (Keep.refl _ w).alloc _
  have hF : ∀ w', Keep [] W0 w' → w'.cell? ⟨w.heap.size, 0, none⟩ = some (.int .i64 (n : Int)) ∧ True := fun w' kk => by
    refine ⟨?_, trivial⟩
    rw [(b0.keep0 kk).cell]; rfl
  have c0 := (hF W0 (Keep.refl _ _)).1
  have E0 := Lib.hid (h.keep0 K0)
  have K0h := Lib.hid K0
  have HW := Lib.hid hW0
  have HCM := Lib.hid hcm
  clear h hcm b0 K0 hW0
  by_cases hs : n < 1
  · have hz : n = 0 := by omega
    have HC : Hid (waitE cm s n = cm s) := by show _ = _; unfold waitE; rw [if_pos hs]
    have HCM1 := Lib.hid (HCM.out hs)
    clear hs hF HCM
    rw [hz] at c0
    have c0' : W0.cell? ⟨w.heap.size, 0, none⟩ = some (.int .i64 0) := c0
    clear c0 hz
    go_enter Tryd.func32, Tryd.ntmps32
    go_wp2_with (first
      | rw [HW.out]
      | (go_at_call 22; refine (HCM1.out _ E0.out).mono ?_; rintro _ w1 ⟨A, p, bs', rfl, o, E1, hb1, k1⟩))
    go_ret
    rw [HC.out]
    exact RetE.base K0h.out ⟨A, p, bs', rfl, o, E1, hb1, k1⟩
  · have p0 : ¬ (n : Int) < 1 := by omega
    have HC : Hid (waitE cm s n = (addE s 16 n, [])) := by show _ = _; unfold waitE; rw [if_neg hs]
    have HADD : Hid (∀ w' A, TqAt w' b 69 13 (engL v x vc c s A).toArray s.tm bs → Calls Tryd.prog 33 #[.pointer (some ⟨b, 13, none⟩), .int .i64 16, .int .i64 (n : Int)] w' fun e w2 => e = .returned (.bool true) ∧ TqPost w' b 69 13 (engL v x vc c s A).toArray (addR s.tm 16 n) bs w2) := fun w' A q =>
      add_any b _ 13 _ _ bs 16 n w' q h16 (by omega) hl
    clear HCM
    go_enter Tryd.func32, Tryd.ntmps32
    go_upto_region 3 with (rw [HW.out])
    clear c0
    refine wp_region_flow_tail 5 (Keep [] W0) rfl (by kernel_rfl) (Keep.refl _ _).drew ?_
    repeat (refine fl_val (v := ?_) (by rfl) ?_ ?_; rotate_left; (intro w' hS; obtain ⟨f1,f2⟩ := hF w' hS; go_simp; with_reducible rfl); simp only [Act.put, List.setIfInBounds_toArray, List.set_cons_zero, List.set_cons_succ])
    refine fl_nil ?_
    intro w12 hS
    clear hF
    have E12 := E0.out.keep0 hS
    obtain ⟨A, q⟩ := E12.tq
    have HA := Lib.hid (HADD.out w12 A q)
    have E12h := Lib.hid E12
    have hS12 := Lib.hid hS
    clear E12 q HADD hS
    go_wp2_with (go_at_call 33; refine HA.out.mono ?_; rintro _ w13 ⟨rfl, hq⟩)
    go_ret
    obtain ⟨bs', E13, hb13, k13⟩ := E12h.out.timed hq
    have K12 := K0h.out.then hS12.out
    rw [HC.out]
    exact ⟨none, 0, bs', rfl, World.ownsRow_nil _ _ _ _, E13, fun y hy => (hb13 y hy).imp id (fun hy => Nat.le_trans K12.size hy), (K12.mono (by simp)).trans k13 (fun y hy _ => hy)⟩
end
end Go.Proofs.YteflgdnekflbbaaDoor
