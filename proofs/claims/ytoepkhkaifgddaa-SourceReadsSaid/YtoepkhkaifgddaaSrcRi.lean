/- The document's line of an image: the arms that add a task, a mode or an edge; walked. Condition: short pieces, rows of less than a million. -/
import Derived.Test.YtoepkhkaifgddaaSrcRe
namespace Go.Proofs.Ytoepkhkaifgddaa
open Go.RowKit

/-- What the document's line answers: an image's cells and whether the line may stand there; where it may, the image is its own, from block b on. -/
def RLine (w : World) (b : Nat) (r : Option Img) (e : Ending) (w' : World) : Prop :=
  ∃ (il : List Value) (ok : Bool), e = .returned (.tuple #[.agg il.toArray, .bool ok]) ∧ il.length = 4 ∧ (∀ u ∈ il, u.oneCell' = true) ∧ ok = r.isSome ∧ Chg b w.heap.size imgUs w w' ∧
    ∀ y, r = some y → ∃ vt vm ve ms, il = [.int .i64 y.res, vt, vm, ve] ∧ OwnImg w' b y vt vm ve ms
/-- The cells of an image that is its own. -/
theorem OwnImg.one {W : World} {b : Nat} {x : Img} {vt vm ve : Value} {ms : List (Mdd × Option Addr × Nat)} (h : OwnImg W b x vt vm ve ms) (n : Int) : ∀ u ∈ [Value.int .i64 n, vt, vm, ve], u.oneCell' = true := by
  obtain ⟨_, _, e1⟩ := own_shape h.tasks
  obtain ⟨_, _, e2⟩ := own_shape h.modes
  obtain ⟨_, _, e3⟩ := own_shape h.edges
  intro u hu
  simp only [List.mem_cons, List.not_mem_nil, or_false] at hu
  rcases hu with rfl | rfl | rfl | rfl
  · rfl
  · rw [e1]; rfl
  · rw [e2]; rfl
  · rw [e3]; rfl
section
variable {P : Program} {ops : Array Oper} {rest : List Oper} {o : Oper} {a : Act} {Q : Exit → Act → World → Prop} {w : World}
/-- An operation that runs to a known value and world. -/
theorem wpList_runs (hgd : o.guard = none) {v : Value} {w' : World} (he : (execOp a.eval o).run P w = .ok (.value v) w') (h : wpList P ops Q rest (a.put o.dst v) w') : wpList P ops Q (o :: rest) a w := by
  refine wpList_plain hgd fun K hK => ?_
  unfold Oper.wp
  rw [he]
  exact hK _ _ h
end
theorem task_both {w : World} {ps : List ByteArray} {e : Ending} {w' : World} (h : TaskPost w (taskP ps) e w') : ∃ (t : Tsk) (ok : Bool), e = .returned (.tuple #[.agg (tskCells t).toArray, .bool ok]) ∧ t.lon.length = 8 ∧ taskP ps = if ok then some t else none := by
  obtain ⟨_, hp⟩ := h
  cases ht : taskP ps with
  | none => rw [ht] at hp; exact ⟨⟨0, 0, 0, List.replicate 8 0⟩, false, hp, rfl, rfl⟩
  | some t => rw [ht] at hp; exact ⟨t, true, hp, taskP_ok ht, rfl⟩
theorem mode_both {w : World} {ps : List ByteArray} {e : Ending} {w' : World} (h : ModePost w (bitsP (ps.drop 1) 0) e w') : ∃ (t : Nat) (ok : Bool), e = .returned (.tuple #[.agg (mdCells t).toArray, .bool ok]) ∧ t < 4294967296 ∧ bitsP (ps.drop 1) 0 = if ok then some t else none := by
  obtain ⟨_, hp⟩ := h
  cases ht : bitsP (ps.drop 1) 0 with
  | none => rw [ht] at hp; obtain ⟨s, hs, he⟩ := hp; exact ⟨s, false, he, hs, rfl⟩
  | some t => rw [ht] at hp; exact ⟨t, true, hp, bitsP_lt (by decide) ht, rfl⟩
theorem edge_of : ∀ z : List Int, z.length = 23 → ∃ t : Edg, (t.offs.length = 16 ∧ t.mp.length = 4) ∧ iv z = edgCells t
  | a :: b :: c :: r, h => by
    refine ⟨⟨a, b, c, r.take 16, r.drop 16⟩, ⟨by simp at h ⊢; omega, by simp at h ⊢; omega⟩, ?_⟩
    unfold edgCells edgInts
    rw [List.take_append_drop]
theorem edge_both {w : World} {ps : List ByteArray} {e : Ending} {w' : World} (h : EdgePost w (edgeP ps) e w') : ∃ (t : Edg) (ok : Bool), e = .returned (.tuple #[.agg (edgCells t).toArray, .bool ok]) ∧ (t.offs.length = 16 ∧ t.mp.length = 4) ∧ edgeP ps = if ok then some t else none := by
  obtain ⟨_, hp⟩ := h
  cases ht : edgeP ps with
  | none =>
    rw [ht] at hp
    obtain ⟨z, hz, he⟩ := hp
    obtain ⟨t, h2, h3⟩ := edge_of z hz
    rw [h3] at he
    exact ⟨t, false, he, h2, rfl⟩
  | some t => rw [ht] at hp; exact ⟨t, true, hp, edgeP_ok ht, rfl⟩
set_option maxRecDepth 100000 in
set_option maxHeartbeats 4000000 in
theorem rline_task (b bp op cc : Nat) (x : Img) (vt vm ve : Value) (ms : List (Mdd × Option Addr × Nat)) (ps : List ByteArray) (w : World) (hO : OwnImg w b x vt vm ve ms) (hb : b ≤ w.heap.size) (h : Reads w 1 (some ⟨bp, op, none⟩) ps.length (strs ps)) (hl : ps.length ≤ 1000001) (hcap : ps.length ≤ cc) (hz : ∀ p ∈ ps, p.size ≤ 1000000) (hxl : ImgLe x 1000000) (h0 : 0 < ps.length) (hw : bytesOf ps[0] = wTask) :
    Calls Try.prog 36 #[.agg #[.int .i64 x.res, vt, vm, ve], .slice (some ⟨bp, op, none⟩) ps.length cc, .bool false] w (RLine w b (lineP x ps false)) := by
  have hLP : Hid (lineP x ps false = (taskP ps).map fun t => { x with tasks := x.tasks ++ [t] }) := by
    show _ = _
    unfold lineP
    rw [show ps.getD 0 { data := #[] } = ps[0] by simp [List.getD, h0], hw]
    rfl
  have HT := fun W (hk : Keep [] w W) => Lib.hid (rtask12_any (some ⟨bp, op, none⟩) cc ps W (h.keep0 hk) hl hcap hz)
  have hpc : ∀ W, Keep [] w W → W.cell? ⟨bp, op, none⟩ = some (strOf wTask) := fun W hk => by
    obtain ⟨bp', op', e, hb', hc⟩ := (h.keep0 hk).addr h0
    cases e
    rw [← hw, strOf_bytes]
    exact hc 0 (.string ps[0]) (by simp [strs, h0])
  have hp0 : (0 : Int) < (ps.length : Int) := by omega
  have hq1 : ∀ W, (binOp .eql 9 (strOf wTask) (.string { data := #[114, 101, 115] })).run Try.prog W = .ok (.bool false) W := fun W => run_eql_str (P := Try.prog) 9 wTask wRes W
  have he1 : ∀ y z W, (eqGuard BinOp.eql 9 y z (strOf wTask) (.string { data := #[114, 101, 115] })).run Try.prog W = .ok () W := fun _ _ _ => rfl
  have hr0 : ∀ W, (binOp .eql 9 (strOf wTask) (.string { data := #[116, 97, 115, 107] })).run Try.prog W = .ok (.bool (decide (wTask = wTask))) W := fun W => run_eql_str (P := Try.prog) 9 wTask wTask W
  have hs0 : ∀ y z W, (eqGuard BinOp.eql 9 y z (strOf wTask) (.string { data := #[116, 97, 115, 107] })).run Try.prog W = .ok () W := fun _ _ _ => rfl
  rw [show decide (wTask = wTask) = true by decide] at hr0
  have hr1 : ∀ W, (binOp .eql 9 (strOf wTask) (.string { data := #[109, 111, 100, 101] })).run Try.prog W = .ok (.bool (decide (wTask = wMode))) W := fun W => run_eql_str (P := Try.prog) 9 wTask wMode W
  have hs1 : ∀ y z W, (eqGuard BinOp.eql 9 y z (strOf wTask) (.string { data := #[109, 111, 100, 101] })).run Try.prog W = .ok () W := fun _ _ _ => rfl
  rw [show decide (wTask = wMode) = false by decide] at hr1
  have hr2 : ∀ W, (binOp .eql 9 (strOf wTask) (.string { data := #[101, 100, 103, 101] })).run Try.prog W = .ok (.bool (decide (wTask = wEdge))) W := fun W => run_eql_str (P := Try.prog) 9 wTask wEdge W
  have hs2 : ∀ y z W, (eqGuard BinOp.eql 9 y z (strOf wTask) (.string { data := #[101, 100, 103, 101] })).run Try.prog W = .ok () W := fun _ _ _ => rfl
  rw [show decide (wTask = wEdge) = false by decide] at hr2
  have hr3 : ∀ W, (binOp .eql 9 (strOf wTask) (.string { data := #[113, 117, 101, 117, 101] })).run Try.prog W = .ok (.bool (decide (wTask = wQueue))) W := fun W => run_eql_str (P := Try.prog) 9 wTask wQueue W
  have hs3 : ∀ y z W, (eqGuard BinOp.eql 9 y z (strOf wTask) (.string { data := #[113, 117, 101, 117, 101] })).run Try.prog W = .ok () W := fun _ _ _ => rfl
  rw [show decide (wTask = wQueue) = false by decide] at hr3
  generalize wTask = pb at *
  have HO := Lib.hid hO
  have hone := hO.one x.res
  have KA : Keep [] w (w.alloc (.cells #[.int .i64 x.res, vt, vm, ve] 26)) := (Keep.refl [] w).alloc _
  have KB := KA.alloc (.cells #[.int .i64 0, .slice none 0 0, .slice none 0 0, .slice none 0 0] 26)
  have hp2 := hpc _ KB
  clear hw h hz hO
  go_enter Try.func36, Try.ntmps36
  go_wp2_with fail
  refine (HT _ KB).out.mono ?_
  rintro e w1 hp
  have K1 := KB.then hp.1
  have hB3 := ((Blk.new w 26 #[.int .i64 x.res, vt, vm, ve]).alloc (.cells #[.int .i64 0, .slice none 0 0, .slice none 0 0, .slice none 0 0] 26)).keep0 hp.1
  have hB6 := (Blk.new (w.alloc (.cells #[.int .i64 x.res, vt, vm, ve] 26)) 26 #[.int .i64 0, .slice none 0 0, .slice none 0 0, .slice none 0 0]).keep0 hp.1
  obtain ⟨t, ok, rfl, ht8, htp⟩ := task_both hp
  have htc : Hid ((tskCells t).length = 11) := tskCells_len ht8
  have htone : ∀ u ∈ tskCells t, u.oneCell' = true := iv_one _
  have hpc1 := hpc _ K1
  have HTP := Lib.hid htp
  have HB3 := Lib.hid hB3
  have HB6 := Lib.hid hB6
  have HK1 := Lib.hid K1
  have h36 : (w.alloc (.cells #[.int .i64 x.res, vt, vm, ve] 26)).heap.size = w.heap.size + 1 := by simp only [World.alloc, Array.size_push]
  rw [h36] at HB6
  have hg3 := hB3.lt
  have hg6 := HB6.out.lt
  clear hp HT KA KB K1 hB3 hB6 htp h36 hpc
  obtain ⟨g3, hg3e⟩ : ∃ g3, w.heap.size = g3 := ⟨_, rfl⟩
  obtain ⟨g6, hg6e⟩ : ∃ g6, w.heap.size + 1 = g6 := ⟨_, rfl⟩
  have hg36 : w.heap.size ≤ g3 ∧ w.heap.size ≤ g6 ∧ g3 ≠ g6 := by omega
  rw [hg6e] at HB6 hg6 ⊢
  rw [hg3e] at HB3 hg3 ⊢
  have HGG := Lib.hid hg36
  clear hg36 hg3e hg6e
  go_wp2_with (refine stop_store 71 (.tmp 10) (.tmp 64) rfl ?_)
  constructor
  refine wpList_store_all rfl 71 (.tmp 10) (.tmp 64) rfl rfl rfl (vs := tskCells t) (by rw [htc.out]; exact agg_task.2) (Blk.new _ _ _) htone (by rw [htc.out]; rfl) ?_
  intro w2 d2 k2
  have kr2 : Keep [] w1 w2 := ((Keep.refl [] w1).alloc _).trans k2 (fun y hy h => by simp at hy h; omega)
  have K2 := Lib.hid (HK1.out.then kr2)
  have B3 := HB3.out.keep0 kr2
  have B6 := HB6.out.keep0 kr2
  have O2 := HO.out.keep0 K2.out
  have c1 := B3.cell 1
  have hD2 := d2.cellsAt
  have hsz2 := K2.out.size
  have hxt := hxl.tasks
  have hrow := O2.tasks
  have HB32 := Lib.hid B3
  have HB62 := Lib.hid B6
  have HO2 := Lib.hid O2
  clear k2 kr2 d2 HB3 HB6 HK1 B3 B6 O2
  generalize w1.heap.size = gt at *
  go_wp2_with (first
    | (refine wpList_load_agg rfl 71 (.tmp 10) rfl rfl (cs := tskCells t) (by rw [htc.out]; exact agg_task) hD2 ?_)
    | (refine stop_at 69 rfl ?_))
  constructor
  refine wpList_runs rfl (exec_slice_one slice_task htc.out (by decide) rfl _) ?_
  refine wpList_append_one rfl (.tmp 67) (.tmp 69) 22 rfl slice_task hrow rfl rfl (us := tskCells t) htc.out htone (by omega) (by omega) (by unfold maxLen; omega) ?_
  intro v' w4 hown4 k4 _
  have hn3 : g3 ∉ vt.ownBlock.toList := fun hm => unown_ne hrow HB32.out (by decide) (by simpa using hm)
  have hn6 : g6 ∉ vt.ownBlock.toList := fun hm => unown_ne hrow HB62.out (by decide) (by simpa using hm)
  have B34 := HB32.out.keep k4 hn3
  have B64 := HB62.out.keep k4 hn6
  have O4 := HO2.out.task t ht8 k4 hown4
  obtain ⟨A', c', rfl⟩ := own_shape hown4
  have c4 := B34.cell 1
  have f4 := B34.frozen 1
  have H34 := Lib.hid B34
  have H64 := Lib.hid B64
  have HO4 := Lib.hid O4
  have HK4 := Lib.hid k4
  have HN3 := Lib.hid hn3
  clear hn3 hn6 B34 B64 O4 k4 hown4 hrow HB32 HB62 HO2 c1 hD2
  go_wp2_with (first
    | (refine wpList_load_agg rfl 26 (.tmp 3) rfl rfl (cs := [.int .i64 x.res, .slice A' (x.tasks.length + 1) c', vm, ve]) agg_image (H34.out.set_ 1 _).cellsAt ?_)
    | (refine stop_store 26 (.tmp 6) (.tmp 72) rfl ?_))
  constructor
  have hone4 := HO4.out.one x.res
  refine wpList_store_all rfl 26 (.tmp 6) (.tmp 72) rfl rfl rfl (vs := [.int .i64 x.res, .slice A' (x.tasks.length + 1) c', vm, ve]) agg_image.2 (H64.out.far (Ne.symm HGG.out.2.2) _) hone4 rfl ?_
  intro wz dz kz
  have kA : Keep vt.ownBlock.toList w w4 := (K2.out.mono (by simp)).trans HK4.out (fun y hy _ => hy)
  have kC := Lib.hid ((kA.setCell (p := ⟨g3, 1, none⟩) (fun h => by dsimp only at h; have := HGG.out; omega) (.slice A' (x.tasks.length + 1) c')).trans kz (fun y hy h => by have := HGG.out; simp at hy; subst hy; omega))
  have k4z : Keep [g3, g6] w4 wz := ((Keep.refl [g3, g6] w4).setCell (p := ⟨g3, 1, none⟩) (by simp) (.slice A' (x.tasks.length + 1) c')).trans kz (fun y hy _ => by simp at hy; simp [hy])
  have OZ := Lib.hid (HO4.out.keep k4z (fun gg hgg cs t' fr he => by
    simp only [List.mem_cons, List.not_mem_nil, or_false] at hgg
    rcases hgg with rfl | rfl
    · rw [show w4.heap[gg]? = _ from H34.out] at he; cases he; decide
    · rw [show w4.heap[gg]? = _ from H64.out] at he; cases he; decide))
  have HZ1 := Lib.hid hone4
  clear kA k4z kz hone4
  go_wp2
  refine bodyPost_ret (results_cell_tmp rfl _ rfl rfl dz agg_image) rfl ?_
  refine ⟨_, ok, rfl, rfl, HZ1.out, ?_, Chg.of_keep kC.out (fun gg hgg _ => .inr ⟨row_base HO.out.tasks gg hgg, ?_⟩), fun y hy => ?_⟩
  · rw [hLP.out, HTP.out]; cases ok <;> rfl
  · obtain ⟨cs, fr, hh⟩ := row_typed HO.out.tasks gg hgg
    exact ⟨cs, _, fr, hh, by simp⟩
  · rw [hLP.out, HTP.out] at hy
    cases ok
    · cases hy
    · cases hy
      exact ⟨_, _, _, _, rfl, OZ.out⟩
set_option maxRecDepth 100000 in
set_option maxHeartbeats 4000000 in
theorem rline_mode (b bp op cc : Nat) (x : Img) (vt vm ve : Value) (ms : List (Mdd × Option Addr × Nat)) (ps : List ByteArray) (w : World) (hO : OwnImg w b x vt vm ve ms) (hb : b ≤ w.heap.size) (h : Reads w 1 (some ⟨bp, op, none⟩) ps.length (strs ps)) (hl : ps.length ≤ 1000001) (hcap : ps.length ≤ cc) (hz : ∀ p ∈ ps, p.size ≤ 1000000) (hxl : ImgLe x 1000000) (h0 : 0 < ps.length) (hw : bytesOf ps[0] = wMode) :
    Calls Try.prog 36 #[.agg #[.int .i64 x.res, vt, vm, ve], .slice (some ⟨bp, op, none⟩) ps.length cc, .bool false] w (RLine w b (lineP x ps false)) := by
  have hLP : Hid (lineP x ps false = (bitsP (ps.drop 1) 0).map fun t => { x with modes := x.modes ++ [⟨t, []⟩] }) := by
    show _ = _
    unfold lineP
    rw [show ps.getD 0 { data := #[] } = ps[0] by simp [List.getD, h0], hw]
    rfl
  have HT := fun W (hk : Keep [] w W) => Lib.hid (rmode_any (some ⟨bp, op, none⟩) cc ps W (h.keep0 hk) h0 hl hcap hz)
  have hpc : ∀ W, Keep [] w W → W.cell? ⟨bp, op, none⟩ = some (strOf wMode) := fun W hk => by
    obtain ⟨bp', op', e, hb', hc⟩ := (h.keep0 hk).addr h0
    cases e
    rw [← hw, strOf_bytes]
    exact hc 0 (.string ps[0]) (by simp [strs, h0])
  have hp0 : (0 : Int) < (ps.length : Int) := by omega
  have hq1 : ∀ W, (binOp .eql 9 (strOf wMode) (.string { data := #[114, 101, 115] })).run Try.prog W = .ok (.bool false) W := fun W => run_eql_str (P := Try.prog) 9 wMode wRes W
  have he1 : ∀ y z W, (eqGuard BinOp.eql 9 y z (strOf wMode) (.string { data := #[114, 101, 115] })).run Try.prog W = .ok () W := fun _ _ _ => rfl
  have hr0 : ∀ W, (binOp .eql 9 (strOf wMode) (.string { data := #[116, 97, 115, 107] })).run Try.prog W = .ok (.bool (decide (wMode = wTask))) W := fun W => run_eql_str (P := Try.prog) 9 wMode wTask W
  have hs0 : ∀ y z W, (eqGuard BinOp.eql 9 y z (strOf wMode) (.string { data := #[116, 97, 115, 107] })).run Try.prog W = .ok () W := fun _ _ _ => rfl
  rw [show decide (wMode = wTask) = false by decide] at hr0
  have hr1 : ∀ W, (binOp .eql 9 (strOf wMode) (.string { data := #[109, 111, 100, 101] })).run Try.prog W = .ok (.bool (decide (wMode = wMode))) W := fun W => run_eql_str (P := Try.prog) 9 wMode wMode W
  have hs1 : ∀ y z W, (eqGuard BinOp.eql 9 y z (strOf wMode) (.string { data := #[109, 111, 100, 101] })).run Try.prog W = .ok () W := fun _ _ _ => rfl
  rw [show decide (wMode = wMode) = true by decide] at hr1
  have hr2 : ∀ W, (binOp .eql 9 (strOf wMode) (.string { data := #[101, 100, 103, 101] })).run Try.prog W = .ok (.bool (decide (wMode = wEdge))) W := fun W => run_eql_str (P := Try.prog) 9 wMode wEdge W
  have hs2 : ∀ y z W, (eqGuard BinOp.eql 9 y z (strOf wMode) (.string { data := #[101, 100, 103, 101] })).run Try.prog W = .ok () W := fun _ _ _ => rfl
  rw [show decide (wMode = wEdge) = false by decide] at hr2
  have hr3 : ∀ W, (binOp .eql 9 (strOf wMode) (.string { data := #[113, 117, 101, 117, 101] })).run Try.prog W = .ok (.bool (decide (wMode = wQueue))) W := fun W => run_eql_str (P := Try.prog) 9 wMode wQueue W
  have hs3 : ∀ y z W, (eqGuard BinOp.eql 9 y z (strOf wMode) (.string { data := #[113, 117, 101, 117, 101] })).run Try.prog W = .ok () W := fun _ _ _ => rfl
  rw [show decide (wMode = wQueue) = false by decide] at hr3
  generalize wMode = pb at *
  have HO := Lib.hid hO
  have hone := hO.one x.res
  have KA : Keep [] w (w.alloc (.cells #[.int .i64 x.res, vt, vm, ve] 26)) := (Keep.refl [] w).alloc _
  have KB := KA.alloc (.cells #[.int .i64 0, .slice none 0 0, .slice none 0 0, .slice none 0 0] 26)
  have hp2 := hpc _ KB
  clear hw h hz hO
  go_enter Try.func36, Try.ntmps36
  go_wp2_with fail
  refine (HT _ KB).out.mono ?_
  rintro e w1 hp
  have K1 := KB.then hp.1
  have hB3 := ((Blk.new w 26 #[.int .i64 x.res, vt, vm, ve]).alloc (.cells #[.int .i64 0, .slice none 0 0, .slice none 0 0, .slice none 0 0] 26)).keep0 hp.1
  have hB6 := (Blk.new (w.alloc (.cells #[.int .i64 x.res, vt, vm, ve] 26)) 26 #[.int .i64 0, .slice none 0 0, .slice none 0 0, .slice none 0 0]).keep0 hp.1
  obtain ⟨t, ok, rfl, ht8, htp⟩ := mode_both hp
  have htc : Hid ((mdCells t).length = 2) := rfl
  have htone : ∀ u ∈ mdCells t, u.oneCell' = true := mdCells_one t
  have hpc1 := hpc _ K1
  have HTP := Lib.hid htp
  have HB3 := Lib.hid hB3
  have HB6 := Lib.hid hB6
  have HK1 := Lib.hid K1
  have h36 : (w.alloc (.cells #[.int .i64 x.res, vt, vm, ve] 26)).heap.size = w.heap.size + 1 := by simp only [World.alloc, Array.size_push]
  rw [h36] at HB6
  have hg3 := hB3.lt
  have hg6 := HB6.out.lt
  clear hp HT KA KB K1 hB3 hB6 htp h36 hpc
  obtain ⟨g3, hg3e⟩ : ∃ g3, w.heap.size = g3 := ⟨_, rfl⟩
  obtain ⟨g6, hg6e⟩ : ∃ g6, w.heap.size + 1 = g6 := ⟨_, rfl⟩
  have hg36 : w.heap.size ≤ g3 ∧ w.heap.size ≤ g6 ∧ g3 ≠ g6 := by omega
  rw [hg6e] at HB6 hg6 ⊢
  rw [hg3e] at HB3 hg3 ⊢
  have HGG := Lib.hid hg36
  clear hg36 hg3e hg6e
  go_wp2_with (refine stop_store 80 (.tmp 12) (.tmp 79) rfl ?_)
  constructor
  refine wpList_store_all rfl 80 (.tmp 12) (.tmp 79) rfl rfl rfl (vs := mdCells t) (by rw [htc.out]; exact agg_mode.2) (Blk.new _ _ _) htone (by rw [htc.out]; rfl) ?_
  intro w2 d2 k2
  have kr2 : Keep [] w1 w2 := ((Keep.refl [] w1).alloc _).trans k2 (fun y hy h => by simp at hy h; omega)
  have K2 := Lib.hid (HK1.out.then kr2)
  have B3 := HB3.out.keep0 kr2
  have B6 := HB6.out.keep0 kr2
  have O2 := HO.out.keep0 K2.out
  have c1 := B3.cell 2
  have hD2 := d2.cellsAt
  have hsz2 := K2.out.size
  have hxt := hxl.modes
  have hrow := O2.modes
  have HB32 := Lib.hid B3
  have HB62 := Lib.hid B6
  have HO2 := Lib.hid O2
  clear k2 kr2 d2 HB3 HB6 HK1 B3 B6 O2
  generalize w1.heap.size = gt at *
  go_wp2_with (first
    | (refine wpList_load_agg rfl 80 (.tmp 12) rfl rfl (cs := mdCells t) (by rw [htc.out]; exact agg_mode) hD2 ?_)
    | (refine stop_at 84 rfl ?_))
  constructor
  refine wpList_runs rfl (exec_slice_one slice_mode htc.out (by decide) rfl _) ?_
  refine wpList_append_one rfl (.tmp 82) (.tmp 84) 23 rfl slice_mode hrow rfl rfl (us := mdCells t) htc.out htone (by omega) (by omega) (by unfold maxLen; omega) ?_
  intro v' w4 hown4 k4 _
  have hn3 : g3 ∉ vm.ownBlock.toList := fun hm => unown_ne hrow HB32.out (by decide) (by simpa using hm)
  have hn6 : g6 ∉ vm.ownBlock.toList := fun hm => unown_ne hrow HB62.out (by decide) (by simpa using hm)
  have B34 := HB32.out.keep k4 hn3
  have B64 := HB62.out.keep k4 hn6
  have O4 := HO2.out.mode t ht8 k4 hown4
  obtain ⟨A', c', rfl⟩ := own_shape hown4
  have c4 := B34.cell 2
  have f4 := B34.frozen 2
  have H34 := Lib.hid B34
  have H64 := Lib.hid B64
  have HO4 := Lib.hid O4
  have HK4 := Lib.hid k4
  have HN3 := Lib.hid hn3
  clear hn3 hn6 B34 B64 O4 k4 hown4 hrow HB32 HB62 HO2 c1 hD2
  go_wp2_with (first
    | (refine wpList_load_agg rfl 26 (.tmp 3) rfl rfl (cs := [.int .i64 x.res, vt, .slice A' (x.modes.length + 1) c', ve]) agg_image (H34.out.set_ 2 _).cellsAt ?_)
    | (refine stop_store 26 (.tmp 6) (.tmp 87) rfl ?_))
  constructor
  have hone4 := HO4.out.one x.res
  refine wpList_store_all rfl 26 (.tmp 6) (.tmp 87) rfl rfl rfl (vs := [.int .i64 x.res, vt, .slice A' (x.modes.length + 1) c', ve]) agg_image.2 (H64.out.far (Ne.symm HGG.out.2.2) _) hone4 rfl ?_
  intro wz dz kz
  have kA : Keep vm.ownBlock.toList w w4 := (K2.out.mono (by simp)).trans HK4.out (fun y hy _ => hy)
  have kC := Lib.hid ((kA.setCell (p := ⟨g3, 2, none⟩) (fun h => by dsimp only at h; have := HGG.out; omega) (.slice A' (x.modes.length + 1) c')).trans kz (fun y hy h => by have := HGG.out; simp at hy; subst hy; omega))
  have k4z : Keep [g3, g6] w4 wz := ((Keep.refl [g3, g6] w4).setCell (p := ⟨g3, 2, none⟩) (by simp) (.slice A' (x.modes.length + 1) c')).trans kz (fun y hy _ => by simp at hy; simp [hy])
  have OZ := Lib.hid (HO4.out.keep k4z (fun gg hgg cs t' fr he => by
    simp only [List.mem_cons, List.not_mem_nil, or_false] at hgg
    rcases hgg with rfl | rfl
    · rw [show w4.heap[gg]? = _ from H34.out] at he; cases he; decide
    · rw [show w4.heap[gg]? = _ from H64.out] at he; cases he; decide))
  have HZ1 := Lib.hid hone4
  clear kA k4z kz hone4
  go_wp2
  refine bodyPost_ret (results_cell_tmp rfl _ rfl rfl dz agg_image) rfl ?_
  refine ⟨_, ok, rfl, rfl, HZ1.out, ?_, Chg.of_keep kC.out (fun gg hgg _ => .inr ⟨row_base HO.out.modes gg hgg, ?_⟩), fun y hy => ?_⟩
  · rw [hLP.out, HTP.out]; cases ok <;> rfl
  · obtain ⟨cs, fr, hh⟩ := row_typed HO.out.modes gg hgg
    exact ⟨cs, _, fr, hh, by simp⟩
  · rw [hLP.out, HTP.out] at hy
    cases ok
    · cases hy
    · cases hy
      exact ⟨_, _, _, _, rfl, OZ.out⟩
set_option maxRecDepth 100000 in
set_option maxHeartbeats 4000000 in
theorem rline_edge (b bp op cc : Nat) (x : Img) (vt vm ve : Value) (ms : List (Mdd × Option Addr × Nat)) (ps : List ByteArray) (w : World) (hO : OwnImg w b x vt vm ve ms) (hb : b ≤ w.heap.size) (h : Reads w 1 (some ⟨bp, op, none⟩) ps.length (strs ps)) (hl : ps.length ≤ 1000001) (hcap : ps.length ≤ cc) (hz : ∀ p ∈ ps, p.size ≤ 1000000) (hxl : ImgLe x 1000000) (h0 : 0 < ps.length) (hw : bytesOf ps[0] = wEdge) :
    Calls Try.prog 36 #[.agg #[.int .i64 x.res, vt, vm, ve], .slice (some ⟨bp, op, none⟩) ps.length cc, .bool false] w (RLine w b (lineP x ps false)) := by
  have hLP : Hid (lineP x ps false = (edgeP ps).map fun t => { x with edges := x.edges ++ [t] }) := by
    show _ = _
    unfold lineP
    rw [show ps.getD 0 { data := #[] } = ps[0] by simp [List.getD, h0], hw]
    rfl
  have HT := fun W (hk : Keep [] w W) => Lib.hid (redge12_any (some ⟨bp, op, none⟩) cc ps W (h.keep0 hk) hl hcap hz)
  have hpc : ∀ W, Keep [] w W → W.cell? ⟨bp, op, none⟩ = some (strOf wEdge) := fun W hk => by
    obtain ⟨bp', op', e, hb', hc⟩ := (h.keep0 hk).addr h0
    cases e
    rw [← hw, strOf_bytes]
    exact hc 0 (.string ps[0]) (by simp [strs, h0])
  have hp0 : (0 : Int) < (ps.length : Int) := by omega
  have hq1 : ∀ W, (binOp .eql 9 (strOf wEdge) (.string { data := #[114, 101, 115] })).run Try.prog W = .ok (.bool false) W := fun W => run_eql_str (P := Try.prog) 9 wEdge wRes W
  have he1 : ∀ y z W, (eqGuard BinOp.eql 9 y z (strOf wEdge) (.string { data := #[114, 101, 115] })).run Try.prog W = .ok () W := fun _ _ _ => rfl
  have hr0 : ∀ W, (binOp .eql 9 (strOf wEdge) (.string { data := #[116, 97, 115, 107] })).run Try.prog W = .ok (.bool (decide (wEdge = wTask))) W := fun W => run_eql_str (P := Try.prog) 9 wEdge wTask W
  have hs0 : ∀ y z W, (eqGuard BinOp.eql 9 y z (strOf wEdge) (.string { data := #[116, 97, 115, 107] })).run Try.prog W = .ok () W := fun _ _ _ => rfl
  rw [show decide (wEdge = wTask) = false by decide] at hr0
  have hr1 : ∀ W, (binOp .eql 9 (strOf wEdge) (.string { data := #[109, 111, 100, 101] })).run Try.prog W = .ok (.bool (decide (wEdge = wMode))) W := fun W => run_eql_str (P := Try.prog) 9 wEdge wMode W
  have hs1 : ∀ y z W, (eqGuard BinOp.eql 9 y z (strOf wEdge) (.string { data := #[109, 111, 100, 101] })).run Try.prog W = .ok () W := fun _ _ _ => rfl
  rw [show decide (wEdge = wMode) = false by decide] at hr1
  have hr2 : ∀ W, (binOp .eql 9 (strOf wEdge) (.string { data := #[101, 100, 103, 101] })).run Try.prog W = .ok (.bool (decide (wEdge = wEdge))) W := fun W => run_eql_str (P := Try.prog) 9 wEdge wEdge W
  have hs2 : ∀ y z W, (eqGuard BinOp.eql 9 y z (strOf wEdge) (.string { data := #[101, 100, 103, 101] })).run Try.prog W = .ok () W := fun _ _ _ => rfl
  rw [show decide (wEdge = wEdge) = true by decide] at hr2
  have hr3 : ∀ W, (binOp .eql 9 (strOf wEdge) (.string { data := #[113, 117, 101, 117, 101] })).run Try.prog W = .ok (.bool (decide (wEdge = wQueue))) W := fun W => run_eql_str (P := Try.prog) 9 wEdge wQueue W
  have hs3 : ∀ y z W, (eqGuard BinOp.eql 9 y z (strOf wEdge) (.string { data := #[113, 117, 101, 117, 101] })).run Try.prog W = .ok () W := fun _ _ _ => rfl
  rw [show decide (wEdge = wQueue) = false by decide] at hr3
  generalize wEdge = pb at *
  have HO := Lib.hid hO
  have hone := hO.one x.res
  have KA : Keep [] w (w.alloc (.cells #[.int .i64 x.res, vt, vm, ve] 26)) := (Keep.refl [] w).alloc _
  have KB := KA.alloc (.cells #[.int .i64 0, .slice none 0 0, .slice none 0 0, .slice none 0 0] 26)
  have hp2 := hpc _ KB
  clear hw h hz hO
  go_enter Try.func36, Try.ntmps36
  go_wp2_with fail
  refine (HT _ KB).out.mono ?_
  rintro e w1 hp
  have K1 := KB.then hp.1
  have hB3 := ((Blk.new w 26 #[.int .i64 x.res, vt, vm, ve]).alloc (.cells #[.int .i64 0, .slice none 0 0, .slice none 0 0, .slice none 0 0] 26)).keep0 hp.1
  have hB6 := (Blk.new (w.alloc (.cells #[.int .i64 x.res, vt, vm, ve] 26)) 26 #[.int .i64 0, .slice none 0 0, .slice none 0 0, .slice none 0 0]).keep0 hp.1
  obtain ⟨t, ok, rfl, ht8, htp⟩ := edge_both hp
  have htc : Hid ((edgCells t).length = 23) := edgCells_len ht8.1 ht8.2
  have htone : ∀ u ∈ edgCells t, u.oneCell' = true := iv_one _
  have hpc1 := hpc _ K1
  have HTP := Lib.hid htp
  have HB3 := Lib.hid hB3
  have HB6 := Lib.hid hB6
  have HK1 := Lib.hid K1
  have h36 : (w.alloc (.cells #[.int .i64 x.res, vt, vm, ve] 26)).heap.size = w.heap.size + 1 := by simp only [World.alloc, Array.size_push]
  rw [h36] at HB6
  have hg3 := hB3.lt
  have hg6 := HB6.out.lt
  clear hp HT KA KB K1 hB3 hB6 htp h36 hpc
  obtain ⟨g3, hg3e⟩ : ∃ g3, w.heap.size = g3 := ⟨_, rfl⟩
  obtain ⟨g6, hg6e⟩ : ∃ g6, w.heap.size + 1 = g6 := ⟨_, rfl⟩
  have hg36 : w.heap.size ≤ g3 ∧ w.heap.size ≤ g6 ∧ g3 ≠ g6 := by omega
  rw [hg6e] at HB6 hg6 ⊢
  rw [hg3e] at HB3 hg3 ⊢
  have HGG := Lib.hid hg36
  clear hg36 hg3e hg6e
  go_wp2_with (refine stop_store 76 (.tmp 14) (.tmp 94) rfl ?_)
  constructor
  refine wpList_store_all rfl 76 (.tmp 14) (.tmp 94) rfl rfl rfl (vs := edgCells t) (by rw [htc.out]; exact agg_edge.2) (Blk.new _ _ _) htone (by rw [htc.out]; rfl) ?_
  intro w2 d2 k2
  have kr2 : Keep [] w1 w2 := ((Keep.refl [] w1).alloc _).trans k2 (fun y hy h => by simp at hy h; omega)
  have K2 := Lib.hid (HK1.out.then kr2)
  have B3 := HB3.out.keep0 kr2
  have B6 := HB6.out.keep0 kr2
  have O2 := HO.out.keep0 K2.out
  have c1 := B3.cell 3
  have hD2 := d2.cellsAt
  have hsz2 := K2.out.size
  have hxt := hxl.edges
  have hrow := O2.edges
  have HB32 := Lib.hid B3
  have HB62 := Lib.hid B6
  have HO2 := Lib.hid O2
  clear k2 kr2 d2 HB3 HB6 HK1 B3 B6 O2
  generalize w1.heap.size = gt at *
  go_wp2_with (first
    | (refine wpList_load_agg rfl 76 (.tmp 14) rfl rfl (cs := edgCells t) (by rw [htc.out]; exact agg_edge) hD2 ?_)
    | (refine stop_at 99 rfl ?_))
  constructor
  refine wpList_runs rfl (exec_slice_one slice_edge htc.out (by decide) rfl _) ?_
  refine wpList_append_one rfl (.tmp 97) (.tmp 99) 24 rfl slice_edge hrow rfl rfl (us := edgCells t) htc.out htone (by omega) (by omega) (by unfold maxLen; omega) ?_
  intro v' w4 hown4 k4 _
  have hn3 : g3 ∉ ve.ownBlock.toList := fun hm => unown_ne hrow HB32.out (by decide) (by simpa using hm)
  have hn6 : g6 ∉ ve.ownBlock.toList := fun hm => unown_ne hrow HB62.out (by decide) (by simpa using hm)
  have B34 := HB32.out.keep k4 hn3
  have B64 := HB62.out.keep k4 hn6
  have O4 := HO2.out.edge t ht8 k4 hown4
  obtain ⟨A', c', rfl⟩ := own_shape hown4
  have c4 := B34.cell 3
  have f4 := B34.frozen 3
  have H34 := Lib.hid B34
  have H64 := Lib.hid B64
  have HO4 := Lib.hid O4
  have HK4 := Lib.hid k4
  have HN3 := Lib.hid hn3
  clear hn3 hn6 B34 B64 O4 k4 hown4 hrow HB32 HB62 HO2 c1 hD2
  go_wp2_with (first
    | (refine wpList_load_agg rfl 26 (.tmp 3) rfl rfl (cs := [.int .i64 x.res, vt, vm, .slice A' (x.edges.length + 1) c']) agg_image (H34.out.set_ 3 _).cellsAt ?_)
    | (refine stop_store 26 (.tmp 6) (.tmp 102) rfl ?_))
  constructor
  have hone4 := HO4.out.one x.res
  refine wpList_store_all rfl 26 (.tmp 6) (.tmp 102) rfl rfl rfl (vs := [.int .i64 x.res, vt, vm, .slice A' (x.edges.length + 1) c']) agg_image.2 (H64.out.far (Ne.symm HGG.out.2.2) _) hone4 rfl ?_
  intro wz dz kz
  have kA : Keep ve.ownBlock.toList w w4 := (K2.out.mono (by simp)).trans HK4.out (fun y hy _ => hy)
  have kC := Lib.hid ((kA.setCell (p := ⟨g3, 3, none⟩) (fun h => by dsimp only at h; have := HGG.out; omega) (.slice A' (x.edges.length + 1) c')).trans kz (fun y hy h => by have := HGG.out; simp at hy; subst hy; omega))
  have k4z : Keep [g3, g6] w4 wz := ((Keep.refl [g3, g6] w4).setCell (p := ⟨g3, 3, none⟩) (by simp) (.slice A' (x.edges.length + 1) c')).trans kz (fun y hy _ => by simp at hy; simp [hy])
  have OZ := Lib.hid (HO4.out.keep k4z (fun gg hgg cs t' fr he => by
    simp only [List.mem_cons, List.not_mem_nil, or_false] at hgg
    rcases hgg with rfl | rfl
    · rw [show w4.heap[gg]? = _ from H34.out] at he; cases he; decide
    · rw [show w4.heap[gg]? = _ from H64.out] at he; cases he; decide))
  have HZ1 := Lib.hid hone4
  clear kA k4z kz hone4
  go_wp2
  refine bodyPost_ret (results_cell_tmp rfl _ rfl rfl dz agg_image) rfl ?_
  refine ⟨_, ok, rfl, rfl, HZ1.out, ?_, Chg.of_keep kC.out (fun gg hgg _ => .inr ⟨row_base HO.out.edges gg hgg, ?_⟩), fun y hy => ?_⟩
  · rw [hLP.out, HTP.out]; cases ok <;> rfl
  · obtain ⟨cs, fr, hh⟩ := row_typed HO.out.edges gg hgg
    exact ⟨cs, _, fr, hh, by simp⟩
  · rw [hLP.out, HTP.out] at hy
    cases ok
    · cases hy
    · cases hy
      exact ⟨_, _, _, _, rfl, OZ.out⟩
end Go.Proofs.Ytoepkhkaifgddaa
