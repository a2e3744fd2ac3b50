/- An image one of whose tasks is another one (the law's with). No condition. Images whose tasks take so many thousandths (sens.Scaled), how many they may (sens.Scale). Condition: the table of math/bits lies where the program's text lays it; few tasks, modes, edges. How short a task's deadline may be at the least (sens.Deadline). Condition: the table of math/bits lies where the program's text lays it; few tasks, modes, edges. By how much all tasks may take longer together (sens.Scale); the chapter's example. Condition: the table of math/bits lies where the program's text lays it. -/
import Derived.Test.YtnnnjcgddmhdmaaGreatDoorSensC
namespace Go.Proofs.YtnnnjcgddmhdmaaGreatDoor
open Go.RowKit
attribute [local go_sem] Oper.semAt_some

theorem own_emptyS (w : World) (e : TypeId) (size : Nat) : (w.alloc (.cells #[] e)).ownsRow w.heap.size e size (.slice (some ⟨w.heap.size, 0, none⟩) 0 0) 0 [] :=
  ⟨by simp, .inr ⟨w.heap.size, 0, #[], rfl, Nat.le_refl _, heap_alloc_new w _, Nat.le_refl _, by unfold maxLen; omega, by simp, by simp⟩⟩
theorem tasks_oneS (l : List Tsk) : ∀ u ∈ l.flatMap tskCells, u.oneCell' = true := fun u hu => by
  obtain ⟨t, _, h⟩ := List.mem_flatMap.1 hu
  exact iv_one _ u h
/-- The parts of an image lie in no block of F. -/
structure ImgOff (F : List Nat) (v : ImgV) (x : Img) : Prop where
  t : 0 < x.tasks.length → Off F v.ta
  m : 0 < x.modes.length → Off F v.ma
  e : 0 < x.edges.length → Off F v.ea
  q : ∀ i, (h : i < x.modes.length) → (h' : i < v.qa.length) → 0 < x.modes[i].qs.length → Off F v.qa[i].1
theorem reads_keepF {w w' : World} {size n : Nat} {A : Option Addr} {xs : List Value} {F : List Nat} (h : Reads w size A n xs) (k : Keep F w w') (hF : 0 < n → Off F A) : Reads w' size A n xs := by
  rcases Nat.eq_zero_or_pos n with h0 | h0
  · exact ⟨h.1, fun hn => by omega⟩
  · exact h.keep k (hF h0)
theorem ImgAt.keepF {w w' : World} {v : ImgV} {x : Img} {F : List Nat} (h : ImgAt w v x) (k : Keep F w w') (hF : ImgOff F v x) : ImgAt w' v x :=
  ⟨h.ok, h.ql, reads_keepF h.tasks k hF.t, reads_keepF h.modes k hF.m, reads_keepF h.edges k hF.e, fun i a b => reads_keepF (h.queues i a b) k (hF.q i a b), h.lt, h.lm, h.le, h.lq⟩
theorem off_high {w : World} {size n : Nat} {A : Option Addr} {xs : List Value} {F : List Nat} (h : Reads w size A n xs) (hn : 0 < n) (hF : ∀ y ∈ F, w.heap.size ≤ y) : Off F A := by
  obtain ⟨b, o, e, hb, _⟩ := h.2 hn
  intro ad had hm
  rw [e] at had
  injection had with had
  subst had
  have := hF _ hm
  simp at this
  omega
theorem ImgAt.offHigh {w : World} {v : ImgV} {x : Img} {F : List Nat} (h : ImgAt w v x) (hF : ∀ y ∈ F, w.heap.size ≤ y) : ImgOff F v x :=
  ⟨fun hn => off_high h.tasks hn hF, fun hn => off_high h.modes hn hF, fun hn => off_high h.edges hn hF, fun i a b hn => off_high (h.queues i a b) hn hF⟩
/-- An image of which a task is another one: its other parts lie where they lay. -/
def RetSet2 (w : World) (v : ImgV) (x y : Img) (e : Ending) (w' : World) : Prop := ∃ v', e = .returned (.agg (imgCells v' y).toArray) ∧ ImgAt w' v' y ∧ Keep [] w w' ∧ ∀ F, (∀ z ∈ F, z < w.heap.size) → ImgOff F v x → ImgOff F v' y
def noTaskV (v : ImgV) (g c : Nat) : ImgV := { v with ta := some ⟨g, 0, none⟩, tc := c }
set_option maxRecDepth 100000 in
set_option maxHeartbeats 4000000 in
theorem lwith2_any (v : ImgV) (x : Img) (k : Nat) (t : Tsk) (w : World) (h : ImgAt w v x) (hk : k < x.tasks.length) (hn : x.tasks.length ≤ 40) (hl : t.lon.length = 8) :
    Calls Tryz.prog 10 #[.agg (imgCells v x).toArray, .int .i64 (k : Int), .agg (tskCells t).toArray] w (RetSet2 w v x (setT x k t)) := by
  obtain ⟨W0, hW0⟩ : ∃ W0, ((w.alloc (.cells (imgCells v x).toArray 26)).alloc (.cells (tskCells t).toArray 33)).alloc (.cells #[.int .i64 0, .slice none 0 0, .slice none 0 0, .slice none 0 0] 26) = W0 := ⟨_, rfl⟩
  have b0 : Blk W0 w.heap.size 26 (imgCells v x).toArray := by rw [← hW0]; exact ((img_box w v x).alloc _).alloc _
  have b1 : Blk W0 (w.heap.size + 1) 33 (tskCells t).toArray := by rw [← hW0]; exact (Blk.new1 _ _ _ _).alloc _
  have b2 : Blk W0 (w.heap.size + 2) 26 #[.int .i64 0, .slice none 0 0, .slice none 0 0, .slice none 0 0] := by rw [← hW0]; exact Blk.new2 _ _ _ _ _
  have K0 : Keep [] w W0 := by rw [← hW0]; exact (((Keep.refl [] w).alloc _).alloc _).alloc _
  have hz0 : W0.heap.size = w.heap.size + 3 := by rw [← hW0]; simp
  obtain ⟨W1, hW1⟩ : ∃ W1, W0.alloc (.cells #[] 33) = W1 := ⟨_, rfl⟩
  have hown0 : W1.ownsRow W0.heap.size 33 11 (.slice (some ⟨W0.heap.size, 0, none⟩) 0 0) 0 [] := by rw [← hW1]; exact own_emptyS W0 _ _
  have k01 : Keep [] W0 W1 := by rw [← hW1]; exact (Keep.refl _ _).alloc _
  have hz1 : W1.heap.size = w.heap.size + 4 := by rw [← hW1]; simp [hz0]
  have hr := (h.keep0 (K0.then k01)).tasks
  have c1 : W1.cell? ⟨w.heap.size, 1, none⟩ = some (.slice v.ta x.tasks.length v.tc) := img_c1 (b0.keep0 k01)
  have HT11 : Hid ((tskCells t).length = 11) := tskCells_len hl
  have hTone : Hid (∀ u ∈ tskCells t, u.oneCell' = true) := iv_one _
  have HH := Lib.hid h
  have HB0 := Lib.hid (b0.keep0 k01)
  have HB1 := Lib.hid (b1.keep0 k01)
  have HB2 := Lib.hid (b2.keep0 k01)
  have HK1 := Lib.hid (K0.then k01)
  have HZ1 := Lib.hid hz1
  have HW := Lib.hid hW0
  have HW1 := Lib.hid hW1
  have HLN := Lib.hid hn
  have HZ0 := Lib.hid hz0
  have HIC : Hid ((imgCells v x).length = 4) := show _ = _ from rfl
  have HIMG : Hid (∀ g c, (imgCells v x).toArray.setIfInBounds 1 (.slice (some ⟨g, 0, none⟩) x.tasks.length c) = (imgCells (noTaskV v g c) x).toArray) := fun g c => rfl
  clear h K0 hW0 b0 b1 b2 hW1 k01 hn hz0
  generalize htc : tskCells t = tc at *
  have HTC := Lib.hid htc
  generalize hil : imgCells v x = il at *
  clear htc hil
  go_enter Tryz.func10, Tryz.ntmps10
  go_wp2_with (first | rw [HW.out] | rw [HW1.out] | (refine stop_at 10 rfl ?_))
  constructor
  have hz1 := HZ1.out
  have hz0 := HZ0.out
  have hn := HLN.out
  refine wpList_append_reads rfl (.tmp 7) (.tmp 9) 22 rfl slice_task hown0 rfl hr rfl (tasks_oneS _) (by omega) (by omega) (by unfold maxLen; omega) ?_
  intro v' w2 hown hk2 _
  rw [Nat.zero_add, List.nil_append] at hown
  obtain ⟨A', c', rfl⟩ := own_shape hown
  obtain ⟨g, rfl, hgB, hgl⟩ := own_addrS hown (by omega)
  have k12 : Keep [] w w2 := HK1.out.trans hk2 (fun y hy hlt => by simp [Value.ownBlock] at hy; omega)
  have B0 := HB0.out.keep hk2 (by simp [Value.ownBlock]; omega)
  have B1 := HB1.out.keep hk2 (by simp [Value.ownBlock]; omega)
  have B2 := HB2.out.keep hk2 (by simp [Value.ownBlock]; omega)
  have e1 := B0.at_ (j := 1) (by show il[1]? = some (il.getD 1 undef); rw [List.getD_eq_getElem?_getD, List.getElem?_eq_getElem (by rw [HIC.out]; decide)]; rfl)
  have ef := B0.frozen 1
  have B0' := B0.set_ 1 (.slice (some ⟨g, 0, none⟩) x.tasks.length c')
  rw [HIMG.out] at B0'
  have ks := keep_set w2 w.heap.size 1 (.slice (some ⟨g, 0, none⟩) x.tasks.length c')
  have hown3 := own_keep hown ks (fun y hy hm => by simp [Value.ownBlock] at hy hm; omega)
  have B1' := B1.keep ks (by simp)
  have B2' := B2.keep ks (by simp)
  have k3 : Keep [] w (w2.setCell ⟨w.heap.size, 1, none⟩ (.slice (some ⟨g, 0, none⟩) x.tasks.length c')) := k12.trans ks (fun y hy hlt => by simp at hy; omega)
  obtain ⟨w3, hw3⟩ : ∃ w3, w2.setCell ⟨w.heap.size, 1, none⟩ (.slice (some ⟨g, 0, none⟩) x.tasks.length c') = w3 := ⟨_, rfl⟩
  rw [hw3] at B0' B1' B2' hown3 k3
  have hgl3 : g < w3.heap.size := by rw [← hw3]; simpa using hgl
  have HW3 := Lib.hid hw3
  have a1 : w3.cell? ⟨w.heap.size, 1, none⟩ = some (.slice (some ⟨g, 0, none⟩) x.tasks.length c') := img_c1 B0'
  have HA3 := Lib.hid B1'.cellsAt
  have p0 : (0 : Int) ≤ (k : Int) := by omega
  have p1 : (k : Int) < (x.tasks.length : Int) := by omega
  obtain ⟨cur, hbk, hcs, hcu⟩ := own_blkS hown3
  have HBK := Lib.hid hbk
  have HCS := Lib.hid hcs
  have HCU := Lib.hid hcu
  have HB0' := Lib.hid B0'
  have HB2' := Lib.hid B2'
  have HK3 := Lib.hid k3
  have HGB := Lib.hid (And.intro hgB hgl3)
  clear hown hk2 k12 B0 B1 B2 B0' B1' B2' ks hown3 hbk hcs hcu k3 hw3 hgl hgl3 hgB hr hown0 hz1 hz0 c1
  go_wp2_with (first
    | rw [HW3.out]
    | (refine wpList_load_agg rfl 33 (.tmp 5) rfl rfl (cs := tc) (by rw [HT11.out]; exact agg_task) HA3.out ?_)
    | (refine stop_store 33 (.tmp 16) (.tmp 15) rfl ?_))
  constructor
  refine wpList_store_agg rfl 33 (.tmp 16) (.tmp 15) rfl (f := k * 11) (vs := tc) rfl rfl (by rw [HT11.out]; exact agg_task.2) HBK.out hTone.out (by rw [HT11.out]; have := HCS.out; omega) ?_
  intro w4 hb4 k4
  have hgb := HGB.out
  have hz0 := HZ0.out
  have KE : Keep [] w w4 := HK3.out.trans k4 (fun y hy hlt => by simp at hy; omega)
  have f0 := Lib.hid (HB0'.out.keep k4 (by simp; omega)).cellsAt
  have f2 := Lib.hid (HB2'.out.keep k4 (by simp; omega))
  have HKE := Lib.hid KE
  have hx := HH.out
  have hcl : ∀ t ∈ x.tasks, (tskCells t).length = 11 := fun t ht => tskCells_len (hx.ok.lon t ht)
  rw [← HTC.out] at hb4
  have hrt := reads_splice hcl HCU.out hk t (tskCells_len hl) HCS.out hb4
  have hat : ImgAt w4 (noTaskV v g c') (setT x k t) := by
    have hx4 := hx.keep0 KE
    refine ⟨setT_ok hx.ok k hl, hx.ql, ?_, hx4.modes, hx4.edges, hx4.queues, ?_, hx.lm, hx.le, hx.lq⟩
    · exact hrt
    · rw [setT_len]; exact hx.lt
  have HAT := Lib.hid hat
  have HJC : Hid ((imgCells (noTaskV v g c') x).length = 4) := show _ = _ from rfl
  have hone : Hid (∀ u ∈ imgCells (noTaskV v g c') x, u.oneCell' = true) := imgS_one _ x
  have HIS := Lib.hid (imgCells_setT (noTaskV v g c') x k t)
  clear hb4 k4 KE hx hcl hrt hat hgb HBK HCS HCU a1 HA3
  generalize imgCells (noTaskV v g c') x = jl at *
  go_wp2_with (first
    | (refine wpList_load_agg rfl 26 (.tmp 3) rfl rfl (cs := jl) (by rw [HJC.out]; exact agg_image) f0.out ?_)
    | (refine stop_store 26 (.tmp 6) (.tmp 17) rfl ?_))
  constructor
  refine wpList_store_all rfl 26 (.tmp 6) (.tmp 17) rfl rfl rfl (vs := jl) (by rw [HJC.out]; exact agg_image.2) f2.out hone.out ?_ ?_
  · rw [HJC.out]; rfl
  intro w5 e5 k5
  go_wp2
  refine bodyPost_ret (results_blk rfl _ rfl e5 (by rw [HJC.out]; exact agg_image)) rfl ?_
  have hgb := HGB.out
  have K5 : Keep [] w w5 := HKE.out.trans k5 (fun y hy hlt => by simp at hy; omega)
  have hx5 := HH.out.keep0 K5
  have ha := HAT.out
  refine ⟨noTaskV v g c', by rw [HIS.out], ⟨ha.ok, ha.ql, ?_, hx5.modes, hx5.edges, hx5.queues, ha.lt, ha.lm, ha.le, ha.lq⟩, K5, fun F hF ho => ⟨fun _ => ?_, ho.m, ho.e, ho.q⟩⟩
  · exact ha.tasks.keep k5 (fun a e hm => by
      have e : some (⟨g, 0, none⟩ : Addr) = some a := e
      injection e with e
      subst e
      simp at hm
      omega)
  · intro a e hm
    have e : some (⟨g, 0, none⟩ : Addr) = some a := e
    injection e with e
    subst e
    have := hF _ hm
    simp at this
    omega
theorem lwith_any (v : ImgV) (x : Img) (k : Nat) (t : Tsk) (w : World) (h : ImgAt w v x) (hk : k < x.tasks.length) (hn : x.tasks.length ≤ 40) (hl : t.lon.length = 8) :
    Calls Tryz.prog 10 #[.agg (imgCells v x).toArray, .int .i64 (k : Int), .agg (tskCells t).toArray] w (RetSet w (setT x k t)) :=
  (lwith2_any v x k t w h hk hn hl).mono (fun _ _ ⟨v', a, b, c, _⟩ => ⟨v', a, b, c⟩)
end Go.Proofs.YtnnnjcgddmhdmaaGreatDoor

namespace Go.Proofs.YtnnnjcgddmhdmaaGreatDoor
open Go.RowKit
attribute [local go_sem] Oper.semAt_some

section
variable {P : Program} {ops : Array Oper} {rest : List Oper} {o : Oper} {a : Act} {Q : Exit → Act → World → Prop} {w : World}
theorem wpList_max (hgd : o.guard = none) (x y : Operand) {ats : Array TypeId} (ho : o.op = .call { callee := .builtin .max, args := #[x, y], argTypes := ats }) {m n : Int} (hx : a.eval x = .int .i64 m) (hy : a.eval y = .int .i64 n)
    (h : wpList P ops Q rest (a.put o.dst (.int .i64 (max m n))) w) : wpList P ops Q (o :: rest) a w := by
  refine wpList_plain hgd fun K hK => ?_
  obtain ⟨dst, op, ty, pos, after, gd⟩ := o
  simp only at ho
  subst ho
  unfold Oper.wp
  rw [run_max hx hy]
  exact hK _ _ h
theorem run_min {ev : Operand → Value} {x y : Operand} {m n : Int} {dst : Option Tmp} {ats : Array TypeId} {tyy : TypeId} {pos : String} {after : Array Edge} {gd : Option (Nat × Bool)} (hx : ev x = .int .i64 m) (hy : ev y = .int .i64 n) :
    (execOp ev ⟨dst, .call { callee := .builtin .min, args := #[x, y], argTypes := ats }, tyy, pos, after, gd⟩).run P w = .ok (.value (.int .i64 (min m n))) w := by
  rcases Int.lt_or_le n m with h | h
  · rw [show min m n = n by omega]
    have h1 : decide (n < m) = true := decide_eq_true h
    simp [go_sem, hx, hy, h]
  · rw [show min m n = m by omega]
    have h3 : ¬ n < m := by omega
    simp [go_sem, hx, hy, h3]
theorem wpList_min (hgd : o.guard = none) (x y : Operand) {ats : Array TypeId} (ho : o.op = .call { callee := .builtin .min, args := #[x, y], argTypes := ats }) {m n : Int} (hx : a.eval x = .int .i64 m) (hy : a.eval y = .int .i64 n)
    (h : wpList P ops Q rest (a.put o.dst (.int .i64 (min m n))) w) : wpList P ops Q (o :: rest) a w := by
  refine wpList_plain hgd fun K hK => ?_
  obtain ⟨dst, op, ty, pos, after, gd⟩ := o
  simp only at ho
  subst ho
  unfold Oper.wp
  rw [run_min hx hy]
  exact hK _ _ h
end
theorem imgCells_scaleK (v : ImgV) (x : Img) (p : Int) (j : Nat) : imgCells v (scaleK x p j) = imgCells v x := by
  unfold imgCells
  rw [scaleK_len]; rfl
set_option maxRecDepth 100000 in
set_option maxHeartbeats 4000000 in
theorem sscaled_any (v : ImgV) (x : Img) (part : Int) (w : World) (h : ImgAt w v x) (hG : FewOk x) (hC : ∀ t ∈ x.tasks, 1 ≤ t.cost ∧ t.cost ≤ 4096) :
    Calls Tryz.prog 14 #[.agg (imgCells v x).toArray, .int .i64 part] w (RetSet w (scaleI x (min (max part 0) 100000))) := by
  obtain ⟨W0, hW0⟩ : ∃ W0, (w.alloc (.cells (imgCells v x).toArray 26)).alloc (.cells #[.int .i64 0, .slice none 0 0, .slice none 0 0, .slice none 0 0] 26) = W0 := ⟨_, rfl⟩
  have b0 : Blk W0 w.heap.size 26 (imgCells v x).toArray := by rw [← hW0]; exact (img_box w v x).alloc _
  have b1 : Blk W0 (w.heap.size + 1) 26 #[.int .i64 0, .slice none 0 0, .slice none 0 0, .slice none 0 0] := by rw [← hW0]; exact Blk.new1 _ _ _ _
  have K0 : Keep [] w W0 := by rw [← hW0]; exact ((Keep.refl [] w).alloc _).alloc _
  have hz0 : W0.heap.size = w.heap.size + 2 := by rw [← hW0]; simp
  have HIC : Hid ((imgCells v x).length = 4) := show _ = _ from rfl
  have HCI := Lib.hid b0.cellsAt
  have HC := Lib.hid (copy_any v x W0 (h.keep0 K0) hG.t hG.m hG.e hG.q)
  have HLO : Hid (∀ t ∈ x.tasks, t.lon.length = 8) := h.ok.lon
  have HB0 := fun w' (k : Keep [] W0 w') => Lib.hid (b0.keep0 k)
  have HB1 := fun w' (k : Keep [] W0 w') => Lib.hid (b1.keep0 k)
  have HK0 := Lib.hid K0
  have HW := Lib.hid hW0
  have HZ0 := Lib.hid hz0
  have HCC := Lib.hid hC
  have HN40 := Lib.hid hG.t
  obtain ⟨p, hp⟩ : ∃ p, min (max part 0) 100000 = p := ⟨_, rfl⟩
  have hpb : 0 ≤ p ∧ p ≤ 100000 := by omega
  have HPB := Lib.hid hpb
  have HP := Lib.hid hp
  rw [hp]
  clear h K0 hW0 b0 b1 hG hC hz0 hp hpb
  generalize imgCells v x = il at *
  go_enter Tryz.func14, Tryz.ntmps14
  go_wp2_with (first
    | rw [HW.out]
    | (refine wpList_load_agg rfl 26 (.tmp 2) rfl rfl (cs := il) (by rw [HIC.out]; exact agg_image) HCI.out ?_))
  refine HC.out.mono ?_
  rintro e w1 ⟨v', rfl, hc, k1⟩
  have HJC : Hid ((imgCells v' x).length = 4) := show _ = _ from rfl
  have hone : Hid (∀ u ∈ imgCells v' x, u.oneCell' = true) := imgS_one v' x
  have c1l : Hid ((imgCells v' x)[1]? = some (.slice v'.ta x.tasks.length v'.tc)) := show _ = _ from rfl
  have HIS : Hid (∀ j, imgCells v' (scaleK x p j) = imgCells v' x) := fun j => imgCells_scaleK v' x p j
  have d0 := (HB0 w1 k1).out
  have d1 := (HB1 w1 k1).out
  generalize hjl : imgCells v' x = jl at *
  clear hjl
  go_wp2_with (refine stop_store 26 (.tmp 2) (.tmp 8) rfl ?_)
  constructor
  refine wpList_store_all rfl 26 (.tmp 2) (.tmp 8) rfl rfl rfl (vs := jl) (by rw [HJC.out]; exact agg_image.2) d0 hone.out ?_ ?_
  · rw [HJC.out]; show 4 = il.toArray.size; rw [List.size_toArray, HIC.out]
  intro w2 e0 k2
  have hz0 := HZ0.out
  have hc2 := hc.keep k2 (fun g hg => by simp at hg; omega)
  have e1 := d1.keep k2 (by simp)
  have KE : Keep [] w w2 := (HK0.out.then k1).trans k2 (fun y hy hlt => by simp at hy; omega)
  have cl := e0.at_ c1l.out
  have HC2 := Lib.hid hc2
  have HE0 := Lib.hid e0
  have HE1 := Lib.hid e1
  have HKE := Lib.hid KE
  clear hc hc2 k1 k2 e0 e1 d0 d1 KE HCI HC HB0 HB1
  go_wp2_with (refine stop_at 10 rfl ?_)
  constructor
  refine wpList_max rfl _ _ rfl rfl rfl ?_
  (simp only [Act.put, List.setIfInBounds_toArray, List.set_cons_zero, List.set_cons_succ])
  refine wpList_min rfl _ _ rfl rfl rfl ?_
  rw [HP.out]
  generalize max part 0 = mx at *
  go_wp2
  go_loopw [15] (fun vi wr => ∃ j : Nat, j ≤ x.tasks.length ∧ vi = .int .i64 (j : Int) ∧ CopyAt W0.heap.size wr v' (scaleK x p j) ∧ Blk wr w.heap.size 26 jl.toArray ∧ Blk wr (w.heap.size + 1) 26 #[.int .i64 0, .slice none 0 0, .slice none 0 0, .slice none 0 0] ∧ Keep [] w wr) (fun vi _ => x.tasks.length - (intOf vi).toNat)
  case atStart => exact ⟨0, Nat.zero_le _, rfl, by rw [scaleK_zero]; exact HC2.out, HE0.out, HE1.out, HKE.out⟩
  case round =>
    clear cl
    obtain ⟨j, hj, rfl, hcp, hb0, hb1, hK⟩ := hrel
    by_cases hlt : j < x.tasks.length
    · have hlt2 : j < (scaleK x p j).tasks.length := by rw [scaleK_len]; exact hlt
      obtain ⟨g, hg, hgB, hfr, hcd, hcc⟩ := hcp.at_ hlt2
      clear hcd
      have hat := scaleK_at x p j hlt
      have htm := hcp.img.task (by omega)
      obtain ⟨tb, to_, hta, htb, hts⟩ := htm
      have htj := hts j hlt2
      rw [hat] at htj hcc
      have hgo : g = tb ∧ 0 = to_ := by
        rw [hg] at hta
        injection hta with hta
        injection hta with h1 h2 h3
        exact ⟨h1, h2⟩
      obtain ⟨rfl, rfl⟩ := hgo
      rw [Nat.zero_add] at htj
      have hsu := scaleK_succ x p j hlt
      have hcb := HCC.out _ (List.getElem_mem hlt)
      have hl8 := HLO.out _ (List.getElem_mem hlt)
      have hput := fun w' (hc' : CopyAt W0.heap.size w' v' (scaleK x p j)) => hc'.put (k := j) (j := 2) hg hlt2 (by decide) (scaleT x.tasks[j] p) (.int .i64 ((x.tasks[j].cost * p + 999) / 1000)) hl8 (by rw [hat]; rfl)
      rw [hsu] at hput
      rw [hg]
      have HT11 : Hid ((tskCells x.tasks[j]).length = 11) := tskCells_len hl8
      have hTone : Hid (∀ u ∈ tskCells x.tasks[j], u.oneCell' = true) := iv_one _
      have HCo : Hid ((tskCells x.tasks[j])[2]? = some (.int .i64 x.tasks[j].cost)) := show _ = _ from rfl
      have HPUT := Lib.hid hput
      have hcT := Lib.hid htj
      have HCP := Lib.hid hcp
      have HFR := Lib.hid (hfr (j * 11 + 2))
      have HCCj := Lib.hid hcc
      have HB0 := Lib.hid hb0
      have HB1 := Lib.hid hb1
      have HK := Lib.hid hK
      have HGB := Lib.hid hgB
      have p0 : (0 : Int) ≤ (j : Int) := by omega
      have p1 : (j : Int) < (x.tasks.length : Int) := by omega
      have p2 : decide ((j : Int) < (x.tasks.length : Int)) = true := decide_eq_true p1
      have hg1 := hg
      clear hcp hb0 hb1 hK hput htj hts hat hsu hfr hcc hlt2 hl8 hgB hta htb
      generalize x.tasks[j].cost = ct at *
      generalize tskCells x.tasks[j] = tc at *
      go_wp2_with (first
        | (refine wpList_load_agg rfl 33 (.tmp 18) rfl rfl (cs := tc) (by rw [HT11.out]; exact agg_task) hcT.out ?_)
        | (refine stop_store 33 (.tmp 6) (.tmp 19) rfl ?_))
      constructor
      refine wpList_store_all rfl 33 (.tmp 6) (.tmp 19) rfl rfl rfl (vs := tc) (by rw [HT11.out]; exact agg_task.2) (Blk.new _ _ _) hTone.out ?_ ?_
      · rw [HT11.out]; rfl
      intro w4 d4 k4
      have k34 : Keep [] wr w4 := ((Keep.refl [] wr).alloc _).trans k4 (fun y hy hlt => by simp at hy; omega)
      have ec := d4.at_ HCo.out
      have a0 := (HB0.out.keep0 k34).at_ c1l.out
      rw [hg1] at a0
      have hcp4 := HCP.out.keep0 k34
      have gl := HCP.out.img
      have hgl := World.block_lt_of_cell? _ _ HCCj.out
      have fc := (k34.cell (p := ⟨g, j * 11 + 2, none⟩) hgl (by simp)).trans HCCj.out
      obtain ⟨g', hg', _, hfr', _⟩ := hcp4.at_ (k := j) (by rw [scaleK_len]; exact hlt)
      have hgg : g' = g := by rw [hg1] at hg'; injection hg' with h; injection h with h1; exact h1.symm
      subst hgg
      have ff := hfr' (j * 11 + 2)
      have hcp5 := HPUT.out w4 hcp4
      have hgb := HGB.out
      have hz0 := HZ0.out
      have ks := keep_set w4 g' (j * 11 + 2) (.int .i64 ((ct * p + 999) / 1000))
      have b05 := (HB0.out.keep0 k34).keep ks (by simp; omega)
      have b15 := (HB1.out.keep0 k34).keep ks (by simp; omega)
      have K5 : Keep [] w (w4.setCell ⟨g', j * 11 + 2, none⟩ (.int .i64 ((ct * p + 999) / 1000))) := (HK.out.then k34).trans ks (fun y hy hlt => by simp at hy; omega)
      have HALL := Lib.hid (And.intro hcp5 (And.intro b05 (And.intro b15 K5)))
      have hpb := HPB.out
      have hm1 : max ct 0 = ct := by omega
      have hm2 : min ct 4096 = ct := by omega
      have hpr0 : 0 ≤ ct * p := Int.mul_nonneg (by omega) hpb.1
      have hpr1 : ct * p ≤ 4096 * 100000 := Int.le_trans (Int.mul_le_mul_of_nonneg_right hcb.2 hpb.1) (Int.mul_le_mul_of_nonneg_left hpb.2 (by omega))
      have hw1 : IntKind.i64.wrap (ct * p) = ct * p := IntWalk.i64_in _ (by omega)
      have hw2 : IntKind.i64.wrap (ct * p + 999) = ct * p + 999 := IntWalk.i64_in _ (by omega)
      have hq : (ct * p + 999).tdiv 1000 = (ct * p + 999) / 1000 := Int.tdiv_eq_ediv_of_nonneg (by omega)
      have hw3 : IntKind.i64.wrap ((ct * p + 999) / 1000) = (ct * p + 999) / 1000 := IntWalk.i64_in _ (by omega)
      clear d4 k4 k34 hcp4 hcp5 ks b05 b15 K5 hcT HCP HPUT HCCj HB0 HB1 hfr' gl hgl hg' HFR hg1 hg
      go_wp2_with (refine stop_at 25 rfl ?_)
      constructor
      refine wpList_max rfl _ _ rfl rfl rfl ?_
      rw [hm1]
      (simp only [Act.put, List.setIfInBounds_toArray, List.set_cons_zero, List.set_cons_succ])
      refine wpList_min rfl _ _ rfl rfl rfl ?_
      rw [hm2]
      generalize hpp : ct * p = pr at *
      clear hm1 hm2
      have hn40 := HN40.out
      go_wp2
      go_roundw
      case rel => exact ⟨j + 1, by omega, by go_num, HALL.out.1, HALL.out.2.1, HALL.out.2.2.1, HALL.out.2.2.2⟩
      case measure => simp [intOf] <;> omega
    · obtain rfl : j = x.tasks.length := by omega
      have p2 : decide ((x.tasks.length : Int) < (x.tasks.length : Int)) = false := by simp
      have HIX := Lib.hid (HIS.out x.tasks.length)
      rw [scaleK_all] at hcp
      have hall := scaleK_all x p
      have hX : imgCells v' (scaleI x p) = jl := by rw [← hall]; exact HIX.out
      have HX := Lib.hid hX
      have HCP := Lib.hid hcp
      have hcI := Lib.hid hb0.cellsAt
      have HB1 := Lib.hid hb1
      have HK := Lib.hid hK
      clear hcp hb0 hb1 hK hall hX
      go_wp2_with (first
        | (refine wpList_load_agg rfl 26 (.tmp 2) rfl rfl (cs := jl) (by rw [HJC.out]; exact agg_image) hcI.out ?_)
        | (refine stop_store 26 (.tmp 4) (.tmp 34) rfl ?_))
      constructor
      refine wpList_store_all rfl 26 (.tmp 4) (.tmp 34) rfl rfl rfl (vs := jl) (by rw [HJC.out]; exact agg_image.2) HB1.out hone.out ?_ ?_
      · rw [HJC.out]; rfl
      intro w5 e5 k5
      go_wp2
      refine bodyPost_ret (results_blk rfl _ rfl e5 (by rw [HJC.out]; exact agg_image)) rfl ?_
      have hz0 := HZ0.out
      have K5 : Keep [] w w5 := HK.out.trans k5 (fun y hy hlt => by simp at hy; omega)
      exact ⟨v', by rw [HX.out], (HCP.out.keep k5 (fun y hy => by simp at hy; omega)).img, K5⟩
end Go.Proofs.YtnnnjcgddmhdmaaGreatDoor

namespace Go.Proofs.YtnnnjcgddmhdmaaGreatDoor
open Go.RowKit
attribute [local go_sem] Oper.semAt_some

theorem dn_mid {lo hi : Int} (h0 : 0 ≤ lo) (h : lo < hi) : lo ≤ (lo + hi).tdiv 2 ∧ (lo + hi).tdiv 2 < hi := by
  rw [Int.tdiv_eq_ediv_of_nonneg (by omega)]
  omega
set_option maxRecDepth 100000 in
set_option maxHeartbeats 2000000 in
theorem sded_no (v : ImgV) (x : Img) (task : Int) (w : World) (hTb : Tab w) (h : ImgAt w v x) (hno : task < 0 ∨ (x.tasks.length : Int) ≤ task ∨ admB x = false) :
    Calls Tryz.prog 16 #[.agg (imgCells v x).toArray, .int .i64 task] w fun e w' => e = .returned (.tuple #[.int .i64 0, .bool false]) ∧ Keep [] w w' := by
  obtain ⟨W0, hW0⟩ : ∃ W0, w.alloc (.cells (imgCells v x).toArray 26) = W0 := ⟨_, rfl⟩
  have b0 : Blk W0 w.heap.size 26 (imgCells v x).toArray := by rw [← hW0]; exact img_box w v x
  have K0 : Keep [] w W0 := by rw [← hW0]; exact (Keep.refl [] w).alloc _
  have HIC : Hid ((imgCells v x).length = 4) := show _ = _ from rfl
  have HCI := Lib.hid b0.cellsAt
  have c1 := img_c1 b0
  have HA := Lib.hid (sadm_any v x W0 (hTb.keep0 K0) (h.keep0 K0))
  have HK0 := Lib.hid K0
  have HW := Lib.hid hW0
  clear h hTb K0 hW0 b0
  generalize imgCells v x = il at *
  generalize x.tasks.length = n at *
  by_cases h1 : task < 0
  · have q0 : decide (task < 0) = true := decide_eq_true h1
    clear hno
    go_enter Tryz.func16, Tryz.ntmps16
    go_wp2_with (rw [HW.out])
    go_ret2
    exact ⟨rfl, HK0.out⟩
  · have q0 : decide (task < 0) = false := decide_eq_false h1
    by_cases h2 : (n : Int) ≤ task
    · have q1 : decide ((n : Int) ≤ task) = true := decide_eq_true h2
      clear hno
      go_enter Tryz.func16, Tryz.ntmps16
      go_wp2_with (rw [HW.out])
      go_ret2
      exact ⟨rfl, HK0.out⟩
    · have q1 : decide ((n : Int) ≤ task) = false := decide_eq_false h2
      have h3 : admB x = false := by rcases hno with h4 | h4 | h4; exact absurd h4 h1; exact absurd h4 h2; exact h4
      rw [h3] at HA
      clear hno h3
      go_enter Tryz.func16, Tryz.ntmps16
      go_wp2_with (first
        | rw [HW.out]
        | (refine wpList_agg_gd rfl 26 (.tmp 2) rfl rfl (cs := il) (by rw [HIC.out]; exact agg_image) HCI.out ?_))
      refine HA.out.mono ?_
      rintro e w1 ⟨rfl, k1⟩
      go_wp2
      go_ret2
      exact ⟨rfl, HK0.out.then k1⟩
set_option maxRecDepth 100000 in
set_option maxHeartbeats 4000000 in
theorem sded_yes (v : ImgV) (x : Img) (k : Nat) (w : World) (hTb : Tab w) (h : ImgAt w v x) (hG : FewOk x) (hk : k < x.tasks.length) (ha : admB x = true) :
    Calls Tryz.prog 16 #[.agg (imgCells v x).toArray, .int .i64 (k : Int)] w fun e w' => ∃ n, e = .returned (.tuple #[.int .i64 n, .bool true]) ∧ DedOut x k x.tasks[k] n ∧ Keep [] w w' := by
  obtain ⟨d1, d2, d3, d4⟩ := adm_bound ha hk
  have hl := h.lt
  unfold maxLen at hl
  obtain ⟨W0, hW0⟩ : ∃ W0, w.alloc (.cells (imgCells v x).toArray 26) = W0 := ⟨_, rfl⟩
  have b0 : Blk W0 w.heap.size 26 (imgCells v x).toArray := by rw [← hW0]; exact img_box w v x
  have K0 : Keep [] w W0 := by rw [← hW0]; exact (Keep.refl [] w).alloc _
  have HIC : Hid ((imgCells v x).length = 4) := show _ = _ from rfl
  have HCI := fun w' (k : Keep [] W0 w') => Lib.hid (b0.keep0 k).cellsAt
  have c1 := img_c1 b0
  obtain ⟨b, o, hA, hbw, hcs⟩ := h.task (by omega)
  rw [hA] at c1
  have hbw0 := Nat.lt_of_lt_of_le hbw K0.size
  have hcd := ((hcs k hk).keep0 K0 hbw) 1 (.int .i64 x.tasks[k].ded) rfl
  have hcc := ((hcs k hk).keep0 K0 hbw) 2 (.int .i64 x.tasks[k].cost) rfl
  have hF : ∀ w', Keep [] W0 w' → w'.cell? ⟨w.heap.size, 1, none⟩ = some (.slice (some ⟨b, o, none⟩) x.tasks.length v.tc) ∧ w'.cell? ⟨b, o + k * 11 + 1, none⟩ = some (.int .i64 x.tasks[k].ded) ∧ w'.cell? ⟨b, o + k * 11 + 2, none⟩ = some (.int .i64 x.tasks[k].cost) := fun w' hk' =>
    ⟨(hk'.cell (p := ⟨w.heap.size, 1, none⟩) b0.lt (by simp)).trans c1, (hk'.cell (p := ⟨b, o + k * 11 + 1, none⟩) hbw0 (by simp)).trans hcd, (hk'.cell (p := ⟨b, o + k * 11 + 2, none⟩) hbw0 (by simp)).trans hcc⟩
  have HA := Lib.hid (sadm_any v x W0 (hTb.keep0 K0) (h.keep0 K0))
  have HCo := fun w' (k' : Keep [] W0 w') => Lib.hid (copy_any v x w' (h.keep0 (K0.then k')) hG.t hG.m hG.e hG.q)
  have HAd := fun (y : Img) (vy : ImgV) w' (k' : Keep [] W0 w') (hy : ImgAt w' vy y) => Lib.hid (sadm_any vy y w' (hTb.keep0 (K0.then k')) hy)
  have HST : Hid (admB (setT x k (dedT x.tasks[k] x.tasks[k].ded)) = true) := by show _ = _; rw [setT_ded x k hk]; exact ha
  have HCO : Hid (∀ n, x.tasks[k].cost ≤ n → n ≤ x.tasks[k].ded → admB (setT x k (dedT x.tasks[k] n)) = true → (n = x.tasks[k].cost ∨ admB (setT x k (dedT x.tasks[k] (n - 1))) = false) → DedOut x k x.tasks[k] n) := fun n a b c d => ⟨a, b, c, d⟩
  have HPUT : Hid (∀ (n : Int) (w' : World) (v' : ImgV) (g : Nat), CopyAt W0.heap.size w' v' x → v'.ta = some ⟨g, 0, none⟩ → CopyAt W0.heap.size (w'.setCell ⟨g, k * 11 + 1, none⟩ (.int .i64 n)) v' (setT x k (dedT x.tasks[k] n))) := fun n w' v' g hc hg => hc.put hg hk (by decide) (dedT x.tasks[k] n) (.int .i64 n) (show x.tasks[k].lon.length = 8 from h.ok.lon x.tasks[k] (List.getElem_mem hk)) rfl
  have p0 : (0 : Int) ≤ (k : Int) := by omega
  have p1 : (k : Int) < (x.tasks.length : Int) := by omega
  have q0 : decide ((k : Int) < 0) = false := decide_eq_false (by omega)
  have q1 : decide ((x.tasks.length : Int) ≤ (k : Int)) = false := decide_eq_false (by omega)
  have q2 : decide (x.tasks.length ≤ k) = false := decide_eq_false (by omega)
  rw [ha] at HA
  have HK0 := Lib.hid K0
  have HW := Lib.hid hW0
  have HD := Lib.hid (And.intro d1 (And.intro d2 d3))
  clear h hTb K0 hW0 b0 hcs hcd hcc hA ha d1 d2 d3 d4 hG
  generalize hQ : (fun n => admB (setT x k (dedT x.tasks[k] n))) = Q at *
  have HQ : Hid (∀ n, admB (setT x k (dedT x.tasks[k] n)) = Q n) := fun n => by rw [← hQ]
  clear hQ
  generalize hil : imgCells v x = il at *
  have HIL := Lib.hid hil
  clear hil
  generalize hct : x.tasks[k].cost = ct at *
  generalize hdd : x.tasks[k].ded = dd at *
  have HCT := Lib.hid hct
  have HDD := Lib.hid hdd
  clear hct hdd
  go_enter Tryz.func16, Tryz.ntmps16
  go_wp2_with (first
    | rw [HW.out]
    | (refine wpList_agg_gd rfl 26 (.tmp 2) rfl rfl (cs := il) (by rw [HIC.out]; exact agg_image) (HCI _ (Keep.refl _ _)).out ?_))
  refine HA.out.mono ?_
  rintro e w1 ⟨rfl, k1⟩
  have hF1 : ∀ w', Keep [] w1 w' → w'.cell? ⟨w.heap.size, 1, none⟩ = some (.slice (some ⟨b, o, none⟩) x.tasks.length v.tc) ∧ w'.cell? ⟨b, o + k * 11 + 1, none⟩ = some (.int .i64 dd) ∧ w'.cell? ⟨b, o + k * 11 + 2, none⟩ = some (.int .i64 ct) := fun w' hk' => hF w' (k1.then hk')
  have HK1 := Lib.hid k1
  clear k1 HA hF c1
  go_wp2
  refine wp_region_flow (Keep [] w1) rfl (by kernel_rfl) (Keep.refl _ _).drew ?_
  repeat (refine fl_val (v := ?_) (by rfl) ?_ ?_; rotate_left; (intro w' hS; obtain ⟨f1,f2,f3⟩ := hF1 w' hS; go_simp; with_reducible rfl); simp only [Act.put, List.setIfInBounds_toArray, List.set_cons_zero, List.set_cons_succ])
  refine fl_nil ?_
  intro wS hS
  have HKS := Lib.hid (HK1.out.then hS)
  clear hS hF1
  go_wp2
  go_loopw [6, 7] (fun a b wr => ∃ lo hi : Int, (ct ≤ lo ∧ lo ≤ hi ∧ hi ≤ dd) ∧ a = .int .i64 lo ∧ b = .int .i64 hi ∧ Q hi = true ∧ (lo = ct ∨ Q (lo - 1) = false) ∧ Keep [] W0 wr) (fun a b _ => (intOf b - intOf a).toNat)
  case atStart => exact ⟨ct, dd, ⟨Int.le_refl _, HD.out.2.1, Int.le_refl _⟩, rfl, rfl, by rw [← HQ.out]; exact HST.out, .inl rfl, HKS.out⟩
  case round =>
    obtain ⟨lo, hi, hb, rfl, rfl, hy, hn, hK⟩ := hrel
    have hd := HD.out
    by_cases hlt : lo < hi
    · have z0 : decide (lo < hi) = true := decide_eq_true hlt
      obtain ⟨m1, m2⟩ := dn_mid (by omega) hlt
      have hwr : IntKind.i64.wrap (lo + hi) = lo + hi := IntWalk.i64_in _ (by omega)
      have hwm : IntKind.i64.wrap ((lo + hi).tdiv 2) = (lo + hi).tdiv 2 := IntWalk.i64_in _ (by omega)
      generalize hm : (lo + hi).tdiv 2 = m at *
      have HWm := HCo wr hK
      have hcI := HCI wr hK
      have hq := HQ.out m
      have HK := Lib.hid hK
      have HY := Lib.hid hy
      have HN := Lib.hid hn
      clear hK hy hn
      go_wp2_with (refine wpList_load_agg rfl 26 (.tmp 2) rfl rfl (cs := il) (by rw [HIC.out]; exact agg_image) hcI.out ?_)
      refine HWm.out.mono ?_
      rintro e w2 ⟨vy, rfl, hcp, k2⟩
      have HJC : Hid ((imgCells vy x).length = 4) := show _ = _ from rfl
      have hone : Hid (∀ u ∈ imgCells vy x, u.oneCell' = true) := imgS_one vy x
      have c1l : Hid ((imgCells vy x)[1]? = some (.slice vy.ta x.tasks.length vy.tc)) := show _ = _ from rfl
      have HIS := Lib.hid (imgCells_setT vy x k (dedT x.tasks[k] m))
      have HK2 := Lib.hid (HK.out.then k2)
      have hz2 := HK.out.size
      have hcp0 := hcp
      have HCP := Lib.hid hcp
      clear k2 HWm hcI
      generalize hjl : imgCells vy x = jl at *
      clear hjl
      go_wp2_with (refine stop_store 26 (.tmp 9) (.tmp 44) rfl ?_)
      constructor
      refine wpList_store_all rfl 26 (.tmp 9) (.tmp 44) rfl rfl rfl (vs := jl) (by rw [HJC.out]; exact agg_image.2) (Blk.new _ _ _) hone.out ?_ ?_
      · rw [HJC.out]; rfl
      intro w3 d3 k3
      have k23 : Keep [] w2 w3 := ((Keep.refl [] w2).alloc _).trans k3 (fun y hy hlt => by simp at hy; omega)
      have hc3 := HCP.out.keep0 k23
      obtain ⟨g, hg, hgB, hfr, hcd, _⟩ := hc3.at_ hk
      have hgW : W0.heap.size ≤ g := by omega
      have hc3' : CopyAt W0.heap.size w3 vy x := ⟨hc3.ok, hc3.ql, own_base hc3.tasks hz2, own_base hc3.modes hz2, own_base hc3.edges hz2, fun i a b => own_base (hc3.queues i a b) hz2, hc3.lt, hc3.lm, hc3.le, hc3.lq⟩
      have hp := HPUT.out m w3 vy g hc3' hg
      have hf := hfr (k * 11 + 1)
      have c1 := d3.at_ c1l.out
      rw [hg] at c1
      have hglt : g < w2.heap.size := by
        obtain ⟨g2, hg2, _, hgl⟩ := own_addrS HCP.out.tasks (by omega)
        rw [hg] at hg2
        injection hg2 with h
        injection h with h1
        omega
      have ks := keep_set w3 g (k * 11 + 1) (.int .i64 m)
      have d4 := d3.keep ks (by simp; omega)
      have K4 : Keep [] W0 (w3.setCell ⟨g, k * 11 + 1, none⟩ (.int .i64 m)) := (HK2.out.then k23).trans ks (fun y hy hlt => by simp at hy; omega)
      obtain ⟨w4, hw4⟩ : ∃ w4, w3.setCell ⟨g, k * 11 + 1, none⟩ (.int .i64 m) = w4 := ⟨_, rfl⟩
      rw [hw4] at hp d4 K4
      have HAy := HAd _ vy w4 K4 hp.img
      rw [hq, HIS.out] at HAy
      have HK4 := Lib.hid K4
      have hc4 := Lib.hid d4.cellsAt
      have HW4 := Lib.hid hw4
      clear hcp0 hcp k3 k23 hc3 hc3' hp ks d3 d4 K4 hw4 hfr hgB hgW hglt hq hg hz2
      generalize x.tasks[k].ded = zd at *
      go_wp2_with (first
        | rw [HW4.out]
        | (refine wpList_load_agg rfl 26 (.tmp 9) rfl rfl (cs := jl) (by rw [HJC.out]; exact agg_image) hc4.out ?_))
      refine HAy.out.mono ?_
      rintro e w5 ⟨rfl, k5⟩
      have HK3 := Lib.hid (HK4.out.then k5)
      clear k5 HAy
      cases hqm : Q m with
      | true =>
        have HQM := Lib.hid hqm
        clear hqm
        go_wp2
        go_roundw
        case rel => exact ⟨lo, m, by omega, rfl, rfl, HQM.out, HN.out, HK3.out⟩
        case measure => simp [intOf] <;> omega
      | false =>
        have hw2 : IntKind.i64.wrap (m + 1) = m + 1 := IntWalk.i64_in _ (by omega)
        have HQM : Hid (Q (m + 1 - 1) = false) := by show _ = _; rw [Int.add_sub_cancel]; exact hqm
        clear hqm
        go_wp2
        go_roundw
        case rel => exact ⟨m + 1, hi, by omega, rfl, rfl, HY.out, .inr HQM.out, HK3.out⟩
        case measure => simp [intOf] <;> omega
    · have z0 : decide (lo < hi) = false := decide_eq_false hlt
      obtain rfl : lo = hi := by omega
      have HK := Lib.hid hK
      have HX := Lib.hid (HCO.out lo (by omega) (by omega) (by rw [HQ.out]; exact hy) (by rw [HQ.out]; exact hn))
      clear hK hy hn
      go_wp2
      go_ret2
      exact ⟨lo, rfl, HX.out, HK0.out.then HK.out⟩
end Go.Proofs.YtnnnjcgddmhdmaaGreatDoor

namespace Go.Proofs.YtnnnjcgddmhdmaaGreatDoor
open Go.RowKit
attribute [local go_sem] Oper.semAt_some

set_option maxRecDepth 100000 in
set_option maxHeartbeats 2000000 in
theorem sscale_no (v : ImgV) (x : Img) (w : World) (hTb : Tab w) (h : ImgAt w v x) (hno : admB x = false) :
    Calls Tryz.prog 12 #[.agg (imgCells v x).toArray] w fun e w' => e = .returned (.tuple #[.int .i64 0, .bool false]) ∧ Keep [] w w' := by
  obtain ⟨W0, hW0⟩ : ∃ W0, w.alloc (.cells (imgCells v x).toArray 26) = W0 := ⟨_, rfl⟩
  have b0 : Blk W0 w.heap.size 26 (imgCells v x).toArray := by rw [← hW0]; exact img_box w v x
  have K0 : Keep [] w W0 := by rw [← hW0]; exact (Keep.refl [] w).alloc _
  have HIC : Hid ((imgCells v x).length = 4) := show _ = _ from rfl
  have HCI := Lib.hid b0.cellsAt
  have HA := Lib.hid (sadm_any v x W0 (hTb.keep0 K0) (h.keep0 K0))
  rw [hno] at HA
  have HK0 := Lib.hid K0
  have HW := Lib.hid hW0
  clear h hTb K0 hW0 b0 hno
  generalize imgCells v x = il at *
  go_enter Tryz.func12, Tryz.ntmps12
  go_wp2_with (first
    | rw [HW.out]
    | (refine wpList_load_agg rfl 26 (.tmp 1) rfl rfl (cs := il) (by rw [HIC.out]; exact agg_image) HCI.out ?_))
  refine HA.out.mono ?_
  rintro e w1 ⟨rfl, k1⟩
  go_wp2
  go_ret2
  exact ⟨rfl, HK0.out.then k1⟩
set_option maxRecDepth 100000 in
set_option maxHeartbeats 4000000 in
theorem sscale_yes (v : ImgV) (x : Img) (w : World) (hTb : Tab w) (h : ImgAt w v x) (hG : FewOk x) (ha : admB x = true) :
    Calls Tryz.prog 12 #[.agg (imgCells v x).toArray] w fun e w' => ∃ n, e = .returned (.tuple #[.int .i64 n, .bool true]) ∧ ScaleOut x n ∧ Keep [] w w' := by
  have hC : ∀ t ∈ x.tasks, 1 ≤ t.cost ∧ t.cost ≤ 4096 := fun t ht => by
    obtain ⟨k, hk, rfl⟩ := List.getElem_of_mem ht
    have := adm_bound ha hk
    omega
  obtain ⟨W0, hW0⟩ : ∃ W0, w.alloc (.cells (imgCells v x).toArray 26) = W0 := ⟨_, rfl⟩
  have b0 : Blk W0 w.heap.size 26 (imgCells v x).toArray := by rw [← hW0]; exact img_box w v x
  have K0 : Keep [] w W0 := by rw [← hW0]; exact (Keep.refl [] w).alloc _
  have HIC : Hid ((imgCells v x).length = 4) := show _ = _ from rfl
  have HCI := fun w' (k : Keep [] W0 w') => Lib.hid (b0.keep0 k).cellsAt
  have HA := Lib.hid (sadm_any v x W0 (hTb.keep0 K0) (h.keep0 K0))
  have HWi := fun (n : Int) w' (k' : Keep [] W0 w') => Lib.hid (sscaled_any v x n w' (h.keep0 (K0.then k')) hG hC)
  have HAd := fun (y : Img) (vy : ImgV) w' (k' : Keep [] W0 w') (hy : ImgAt w' vy y) => Lib.hid (sadm_any vy y w' (hTb.keep0 (K0.then k')) hy)
  have HST : Hid (admB (scaleI x 1000) = true) := by show _ = _; rw [scale_one (fun t ht => (hC t ht).1)]; exact ha
  have HCO : Hid (∀ n, 1000 ≤ n → n ≤ 100000 → admB (scaleI x n) = true → (n = 100000 ∨ admB (scaleI x (n + 1)) = false) → ScaleOut x n) := fun n a b c d => ⟨a, b, c, d⟩
  rw [ha] at HA
  have HK0 := Lib.hid K0
  have HW := Lib.hid hW0
  clear h hTb K0 hW0 b0 ha hG hC
  generalize hQ : (fun n => admB (scaleI x n)) = Q at *
  have HQ : Hid (∀ n, admB (scaleI x n) = Q n) := fun n => by rw [← hQ]
  clear hQ
  generalize imgCells v x = il at *
  go_enter Tryz.func12, Tryz.ntmps12
  go_wp2_with (first
    | rw [HW.out]
    | (refine wpList_load_agg rfl 26 (.tmp 1) rfl rfl (cs := il) (by rw [HIC.out]; exact agg_image) (HCI _ (Keep.refl _ _)).out ?_))
  refine HA.out.mono ?_
  rintro e w1 ⟨rfl, k1⟩
  have HKS := Lib.hid k1
  clear k1 HA
  go_wp2
  go_loopw [4, 5] (fun a b wr => ∃ lo hi : Int, (1000 ≤ lo ∧ lo ≤ hi ∧ hi ≤ 100000) ∧ a = .int .i64 lo ∧ b = .int .i64 hi ∧ Q lo = true ∧ (hi = 100000 ∨ Q (hi + 1) = false) ∧ Keep [] W0 wr) (fun a b _ => (intOf b - intOf a).toNat)
  case atStart => exact ⟨1000, 100000, by omega, rfl, rfl, by rw [← HQ.out]; exact HST.out, .inl rfl, HKS.out⟩
  case round =>
    obtain ⟨lo, hi, hb, rfl, rfl, hy, hn, hK⟩ := hrel
    by_cases hlt : lo < hi
    · have z0 : decide (lo < hi) = true := decide_eq_true hlt
      obtain ⟨m1, m2⟩ := up_mid (by omega) hlt
      have hwr : IntKind.i64.wrap (lo + hi) = lo + hi := IntWalk.i64_in _ (by omega)
      have hw1 : IntKind.i64.wrap (lo + hi + 1) = lo + hi + 1 := IntWalk.i64_in _ (by omega)
      have hwm : IntKind.i64.wrap ((lo + hi + 1).tdiv 2) = (lo + hi + 1).tdiv 2 := IntWalk.i64_in _ (by omega)
      generalize hm : (lo + hi + 1).tdiv 2 = m at *
      have HWm := HWi m wr hK
      rw [show min (max m 0) 100000 = m by omega] at HWm
      have hcI := HCI wr hK
      have hq := HQ.out m
      have HK := Lib.hid hK
      have HY := Lib.hid hy
      have HN := Lib.hid hn
      clear hK hy hn
      generalize hyy : scaleI x m = y at *
      clear hyy
      go_wp2_with (refine wpList_load_agg rfl 26 (.tmp 1) rfl rfl (cs := il) (by rw [HIC.out]; exact agg_image) hcI.out ?_)
      refine HWm.out.mono ?_
      rintro e w2 ⟨vy, rfl, hy2, k2⟩
      have HAy := HAd y vy w2 (HK.out.then k2) hy2
      rw [hq] at HAy
      have HK2 := Lib.hid (HK.out.then k2)
      clear hy2 k2 HWm hcI
      generalize imgCells vy y = yl at *
      go_wp2_with fail
      refine HAy.out.mono ?_
      rintro e w3 ⟨rfl, k3⟩
      have HK3 := Lib.hid (HK2.out.then k3)
      clear k3 HAy hq
      cases hqm : Q m with
      | true =>
        have HQM := Lib.hid hqm
        clear hqm
        go_wp2
        go_roundw
        case rel => exact ⟨m, hi, by omega, rfl, rfl, HQM.out, HN.out, HK3.out⟩
        case measure => simp [intOf] <;> omega
      | false =>
        have hw2 : IntKind.i64.wrap (m - 1) = m - 1 := IntWalk.i64_in _ (by omega)
        have HQM : Hid (Q (m - 1 + 1) = false) := by show _ = _; rw [Int.sub_add_cancel]; exact hqm
        clear hqm
        go_wp2
        go_roundw
        case rel => exact ⟨lo, m - 1, by omega, rfl, rfl, HY.out, .inr HQM.out, HK3.out⟩
        case measure => simp [intOf] <;> omega
    · have z0 : decide (lo < hi) = false := decide_eq_false hlt
      obtain rfl : lo = hi := by omega
      have HK := Lib.hid hK
      have HX := Lib.hid (HCO.out lo (by omega) (by omega) (by rw [HQ.out]; exact hy) (by rw [HQ.out]; exact hn))
      clear hK hy hn
      go_wp2
      go_ret2
      exact ⟨lo, rfl, HX.out, HK0.out.then HK.out⟩

/-! The chapter's example. -/
def exSV (B : Nat) : ImgV := ⟨some ⟨B, 0, none⟩, 1, some ⟨B + 1, 0, none⟩, 1, none, 0, [(none, 0)]⟩
theorem exS_at {w : World} {B : Nat} (h1 : Blk w B 33 ((exS 2).tasks.flatMap tskCells).toArray) (h2 : Blk w (B + 1) 45 #[.int .u32 1, .slice none 0 0]) : ImgAt w (exSV B) (exS 2) := by
  refine ⟨⟨by simp [exS, z8], by simp [exS], by simp [exS], by simp [exS]⟩, rfl, ?_, ?_, ?_, fun i h h' => ?_, ?_, ?_, ?_, ?_⟩
  · exact ⟨rfl, fun _ => ⟨B, 0, rfl, h1.lt, fun j u hu => by rw [Nat.zero_add, h1.cell]; simpa using hu⟩⟩
  · exact ⟨rfl, fun _ => ⟨B + 1, 0, rfl, h2.lt, fun j u hu => by rw [Nat.zero_add, h2.cell]; simpa [exS, exSV, mddCells] using hu⟩⟩
  · exact ⟨rfl, fun hp => by simp [exS] at hp⟩
  · obtain rfl : i = 0 := by simp [exS] at h; omega
    exact ⟨rfl, fun hp => by simp [exS] at hp⟩
  · unfold maxLen; simp [exS]
  · unfold maxLen; simp [exS]
  · unfold maxLen; simp [exS]
  · intro m hm; simp [exS] at hm; subst hm; unfold maxLen; simp
set_option maxRecDepth 100000 in
set_option maxHeartbeats 4000000 in
theorem alive39 (w : World) (hT : Tab w) : Calls Tryz.prog 9 #[] w fun e w' => e = .returned (.bool true) ∧ Keep [] w w' := by
  go_enter Tryz.func9, Tryz.ntmps9
  go_wp2_with (refine stop_at 12 rfl ?_)
  constructor
  have h1 : Blk (((w.alloc (.cells #[.int .i64 10, .int .i64 10, .int .i64 2, .int .i64 0, .int .i64 0, .int .i64 0, .int .i64 0, .int .i64 0, .int .i64 0, .int .i64 0, .int .i64 0] 33)).alloc (.cells #[.int .u32 1, .slice none 0 0] 45)).alloc (.cells #[.int .i64 0, .slice (some ⟨w.heap.size, 0, none⟩) 1 1, .slice (some ⟨w.heap.size + 1, 0, none⟩) 1 1, .slice none 0 0] 26)) w.heap.size 33 #[.int .i64 10, .int .i64 10, .int .i64 2, .int .i64 0, .int .i64 0, .int .i64 0, .int .i64 0, .int .i64 0, .int .i64 0, .int .i64 0, .int .i64 0] := ((Blk.new _ _ _).alloc _).alloc _
  have h2 : Blk (((w.alloc (.cells #[.int .i64 10, .int .i64 10, .int .i64 2, .int .i64 0, .int .i64 0, .int .i64 0, .int .i64 0, .int .i64 0, .int .i64 0, .int .i64 0, .int .i64 0] 33)).alloc (.cells #[.int .u32 1, .slice none 0 0] 45)).alloc (.cells #[.int .i64 0, .slice (some ⟨w.heap.size, 0, none⟩) 1 1, .slice (some ⟨w.heap.size + 1, 0, none⟩) 1 1, .slice none 0 0] 26)) (w.heap.size + 1) 45 #[.int .u32 1, .slice none 0 0] := (Blk.new1 _ _ _ _).alloc _
  have h3 : Blk (((w.alloc (.cells #[.int .i64 10, .int .i64 10, .int .i64 2, .int .i64 0, .int .i64 0, .int .i64 0, .int .i64 0, .int .i64 0, .int .i64 0, .int .i64 0, .int .i64 0] 33)).alloc (.cells #[.int .u32 1, .slice none 0 0] 45)).alloc (.cells #[.int .i64 0, .slice (some ⟨w.heap.size, 0, none⟩) 1 1, .slice (some ⟨w.heap.size + 1, 0, none⟩) 1 1, .slice none 0 0] 26)) (w.heap.size + 1 + 1) 26 #[.int .i64 0, .slice (some ⟨w.heap.size, 0, none⟩) 1 1, .slice (some ⟨w.heap.size + 1, 0, none⟩) 1 1, .slice none 0 0] := Blk.new2 _ _ _ _ _
  have hK : Keep [] w (((w.alloc (.cells #[.int .i64 10, .int .i64 10, .int .i64 2, .int .i64 0, .int .i64 0, .int .i64 0, .int .i64 0, .int .i64 0, .int .i64 0, .int .i64 0, .int .i64 0] 33)).alloc (.cells #[.int .u32 1, .slice none 0 0] 45)).alloc (.cells #[.int .i64 0, .slice (some ⟨w.heap.size, 0, none⟩) 1 1, .slice (some ⟨w.heap.size + 1, 0, none⟩) 1 1, .slice none 0 0] 26)) := (((Keep.refl [] w).alloc _).alloc _).alloc _
  generalize ((w.alloc (.cells #[.int .i64 10, .int .i64 10, .int .i64 2, .int .i64 0, .int .i64 0, .int .i64 0, .int .i64 0, .int .i64 0, .int .i64 0, .int .i64 0, .int .i64 0] 33)).alloc (.cells #[.int .u32 1, .slice none 0 0] 45)).alloc (.cells #[.int .i64 0, .slice (some ⟨w.heap.size, 0, none⟩) 1 1, .slice (some ⟨w.heap.size + 1, 0, none⟩) 1 1, .slice none 0 0] 26) = W at *
  have hI := exS_at h1 h2
  have hG : FewOk (exS 2) := ⟨by simp [exS], by simp [exS], by simp [exS], fun m hm => by simp [exS] at hm; subst hm; simp⟩
  have ha : admB (exS 2) = true := exS_yes 2 (by omega) (by omega)
  have h3' : Blk W (w.heap.size + 1 + 1) 26 (imgCells (exSV w.heap.size) (exS 2)).toArray := h3
  have HIC : Hid ((imgCells (exSV w.heap.size) (exS 2)).length = 4) := show _ = _ from rfl
  have HCI := fun w' (k : Keep [] W w') => Lib.hid ((h3'.keep0 k).cellsAt)
  have HC : Hid (Calls Tryz.prog 7 #[.agg (imgCells (exSV w.heap.size) (exS 2)).toArray, .int .i64 0] W fun e w' => ∃ n, e = .returned (.tuple #[.int .i64 n, .bool true]) ∧ CostOut (exS 2) 0 ⟨10, 10, 2, z8⟩ n ∧ Keep [] W w') :=
    Lib.hid (scost_yes (exSV w.heap.size) (exS 2) 0 W (hT.keep0 hK) hI hG (by simp [exS]) ha)
  have HS := fun w' (k : Keep [] W w') => Lib.hid (sscale_yes (exSV w.heap.size) (exS 2) w' (hT.keep0 (hK.then k)) (hI.keep0 k) hG ha)
  have HK := Lib.hid hK
  clear h1 h2 h3 hI hG ha hK hT h3'
  generalize imgCells (exSV w.heap.size) (exS 2) = il at *
  refine wpList_load_agg rfl 26 (.tmp 1) rfl rfl (cs := il) (by rw [HIC.out]; exact agg_image) (HCI W (Keep.refl _ _)).out ?_
  go_wp2_with fail
  refine HC.out.mono ?_
  rintro e w1 ⟨n, rfl, hc, k1⟩
  obtain rfl := exS_cost hc
  have HS1 := HS w1 k1
  have hcI := HCI w1 k1
  have HK1 := Lib.hid (HK.out.then k1)
  clear hc k1 HC HS HCI
  go_wp2_with (refine wpList_load_agg rfl 26 (.tmp 1) rfl rfl (cs := il) (by rw [HIC.out]; exact agg_image) hcI.out ?_)
  refine HS1.out.mono ?_
  rintro e w2 ⟨n, rfl, hc, k2⟩
  obtain rfl := exS_scale hc
  clear hc HS1
  go_wp2
  go_ret
  exact ⟨rfl, HK1.out.then k2⟩
end Go.Proofs.YtnnnjcgddmhdmaaGreatDoor
