/- An image whose modes' row is laid anew, with a queue more of the last mode. No condition. The document's line of an image: the arm of a queue; walked. Condition: short pieces, rows of less than a million. -/
import Derived.Test.YtoepkhkaifgddaaSrcRj
namespace Go.Proofs.Ytoepkhkaifgddaa
open Go.RowKit

theorem OwnImg.fresh {W W' : World} {b : Nat} {x : Img} {vt vm vm' ve : Value} {l : List (Mdd × Option Addr × Nat)} {m : Mdd × Option Addr × Nat} {A' : Option Addr} {c' : Nat} (h : OwnImg W b x vt vm ve (l ++ [m])) (q : Que) (k : Keep [] W W')
    (hm : W'.ownsRow b 80 2 vm' x.modes.length ((l ++ [((⟨m.1.set, m.1.qs ++ [q]⟩ : Mdd), A', c')]).flatMap mddCells))
    (hq : W'.ownsRow b 83 2 (.slice A' (m.1.qs.length + 1) c') (m.1.qs.length + 1) (m.1.qs.flatMap queCells ++ queCells q))
    (hnew : ∀ g, (Value.slice A' (m.1.qs.length + 1) c').ownBlock = some g → W.heap.size ≤ g) :
    OwnImg W' b { x with modes := addQ x.modes q } vt vm' ve (l ++ [((⟨m.1.set, m.1.qs ++ [q]⟩ : Mdd), A', c')]) := by
  have hlen := h.len
  have hmo : x.modes = l.map (·.1) ++ [m.1] := by rw [← h.eqm]; simp
  have haq : addQ x.modes q = l.map (·.1) ++ [⟨m.1.set, m.1.qs ++ [q]⟩] := by rw [hmo, addQ_eq]
  have haql : (addQ x.modes q).length = x.modes.length := by rw [haq, hmo]; simp
  have ap : ∀ {e size n : Nat} {v : Value} {xs : List Value}, W.ownsRow b e size v n xs → W'.ownsRow b e size v n xs := fun ho => own_keep0 ho k
  have hlast : ∀ i, (hi : i < l.length) → ∀ g, (queV l[i]).ownBlock = some g → (Value.slice A' (m.1.qs.length + 1) c').ownBlock ≠ some g := fun i hi g hg e => by
    have h3 := hnew g e
    have h4 := row_lt (h.ques l[i] (by simp)) g (by simp [hg])
    omega
  refine ⟨⟨h.ok.lon, h.ok.offs, h.ok.mp, fun a ha => ?_⟩, by rw [haq]; simp, ap h.tasks, by dsimp only; rw [haql]; exact hm, ap h.edges, fun a ha => ?_, fun i j hi hj hne g hg => ?_⟩
  · simp only at ha
    rw [haq] at ha
    rcases List.mem_append.1 ha with ha | ha
    · exact h.ok.set a (by rw [hmo]; simp [ha])
    · simp at ha
      subst ha
      exact h.ok.set m.1 (by rw [hmo]; simp)
  · rcases List.mem_append.1 ha with ha | ha
    · exact ap (h.ques a (by simp [ha]))
    · simp at ha
      subst ha
      simpa [queV] using hq
  · rcases Nat.lt_or_ge i l.length with h1 | h1
    · rw [List.getElem_append_left h1] at hg
      rcases Nat.lt_or_ge j l.length with h2 | h2
      · rw [List.getElem_append_left h2]
        have := h.apart i j (by simp; omega) (by simp; omega) hne g (by rw [List.getElem_append_left h1]; exact hg)
        rw [List.getElem_append_left h2] at this
        exact this
      · rw [List.getElem_append_right h2]
        simp at hj
        have : j - l.length = 0 := by omega
        simp only [this, List.getElem_cons_zero]
        have := hlast i h1 g hg
        simpa [queV] using this
    · simp at hi
      have hi0 : i = l.length := by omega
      rcases Nat.lt_or_ge j l.length with h2 | h2
      · rw [List.getElem_append_left h2]
        intro e
        rw [List.getElem_append_right h1] at hg
        have : i - l.length = 0 := by omega
        simp only [this, List.getElem_cons_zero] at hg
        exact hlast j h2 g e (by simpa [queV] using hg)
      · simp at hj
        omega
end Go.Proofs.Ytoepkhkaifgddaa

namespace Go.Proofs.Ytoepkhkaifgddaa
open Go.RowKit


set_option maxRecDepth 100000 in
set_option maxHeartbeats 4000000 in
theorem rline_queue_no (b bp op cc : Nat) (x : Img) (vt vm ve : Value) (ms : List (Mdd × Option Addr × Nat)) (ps : List ByteArray) (w : World) (hO : OwnImg w b x vt vm ve ms) (h : Reads w 1 (some ⟨bp, op, none⟩) ps.length (strs ps)) (hl : ps.length ≤ 1000001) (hcap : ps.length ≤ cc) (hz : ∀ p ∈ ps, p.size ≤ 1000000) (h0 : 0 < ps.length) (hw : bytesOf ps[0] = wQueue) (hno : ps.length ≠ 3 ∨ x.modes = [] ∨ wordP polW (ps.getD 2 { data := #[] }) = 0) :
    Calls Try.prog 36 #[.agg #[.int .i64 x.res, vt, vm, ve], .slice (some ⟨bp, op, none⟩) ps.length cc, .bool false] w (RLine w b (lineP x ps false)) := by
  have hN : Hid (lineP x ps false = none) := by
    show _ = _
    unfold lineP
    rw [show ps.getD 0 { data := #[] } = ps[0] by simp [List.getD, h0], hw]
    show (if x.modes = [] then none else (queueP ps).map fun q => { x with modes := addQ x.modes q }) = none
    by_cases hm : x.modes = []
    · rw [if_pos hm]
    · rw [if_neg hm]
      unfold queueP
      rw [if_neg (fun hh => by
        rcases hno with h1 | h1 | h1
        · exact h1 hh.1
        · exact hm h1
        · exact hh.2 h1)]
      rfl
  obtain ⟨ma, mc, rfl⟩ := own_shape hO.modes
  have hpc : ∀ W, Keep [] w W → W.cell? ⟨bp, op, none⟩ = some (strOf (bytesOf ps[0])) := fun W hk => by
    obtain ⟨bp', op', e, hb', hc⟩ := (h.keep0 hk).addr h0
    cases e
    rw [strOf_bytes]
    exact hc 0 (.string ps[0]) (by simp [strs, h0])
  have hp0 : (0 : Int) < (ps.length : Int) := by omega
  have HO := Lib.hid hO
  have hone := hO.one x.res
  have KA : Keep [] w (w.alloc (.cells #[.int .i64 x.res, vt, .slice ma x.modes.length mc, ve] 26)) := (Keep.refl [] w).alloc _
  have KB := KA.alloc (.cells #[.int .i64 0, .slice none 0 0, .slice none 0 0, .slice none 0 0] 26)
  have hp2 := hpc _ KB
  have hB3 := ((Blk.new w 26 #[.int .i64 x.res, vt, .slice ma x.modes.length mc, ve]).alloc (.cells #[.int .i64 0, .slice none 0 0, .slice none 0 0, .slice none 0 0] 26))
  have hB6 := (Blk.new (w.alloc (.cells #[.int .i64 x.res, vt, .slice ma x.modes.length mc, ve] 26)) 26 #[.int .i64 0, .slice none 0 0, .slice none 0 0, .slice none 0 0])
  have h36 : (w.alloc (.cells #[.int .i64 x.res, vt, .slice ma x.modes.length mc, ve] 26)).heap.size = w.heap.size + 1 := by simp only [World.alloc, Array.size_push]
  rw [h36] at hB6
  rw [hw] at hpc hp2
  have hc2 : ∀ W, Keep [] w W → (h3 : ps.length = 3) → W.cell? ⟨bp, op + 2, none⟩ = some (.string (ps[2]'(by omega))) := fun W hk h3 => by
    obtain ⟨bp', op', e, hb', hc⟩ := (h.keep0 hk).addr h0
    cases e
    exact hc 2 (.string (ps[2]'(by omega))) (by simp [strs, h3])
  have hcm := hB3.cell 2
  have h2c := hc2 _ KB
  have hr0 : ∀ W, (binOp .eql 9 (strOf wQueue) (.string { data := #[114, 101, 115] })).run Try.prog W = .ok (.bool (decide (wQueue = wRes))) W := fun W => run_eql_str (P := Try.prog) 9 wQueue wRes W
  have hs0 : ∀ y z W, (eqGuard BinOp.eql 9 y z (strOf wQueue) (.string { data := #[114, 101, 115] })).run Try.prog W = .ok () W := fun _ _ _ => rfl
  rw [show decide (wQueue = wRes) = false by decide] at hr0
  have hr1 : ∀ W, (binOp .eql 9 (strOf wQueue) (.string { data := #[116, 97, 115, 107] })).run Try.prog W = .ok (.bool (decide (wQueue = wTask))) W := fun W => run_eql_str (P := Try.prog) 9 wQueue wTask W
  have hs1 : ∀ y z W, (eqGuard BinOp.eql 9 y z (strOf wQueue) (.string { data := #[116, 97, 115, 107] })).run Try.prog W = .ok () W := fun _ _ _ => rfl
  rw [show decide (wQueue = wTask) = false by decide] at hr1
  have hr2 : ∀ W, (binOp .eql 9 (strOf wQueue) (.string { data := #[109, 111, 100, 101] })).run Try.prog W = .ok (.bool (decide (wQueue = wMode))) W := fun W => run_eql_str (P := Try.prog) 9 wQueue wMode W
  have hs2 : ∀ y z W, (eqGuard BinOp.eql 9 y z (strOf wQueue) (.string { data := #[109, 111, 100, 101] })).run Try.prog W = .ok () W := fun _ _ _ => rfl
  rw [show decide (wQueue = wMode) = false by decide] at hr2
  have hr3 : ∀ W, (binOp .eql 9 (strOf wQueue) (.string { data := #[101, 100, 103, 101] })).run Try.prog W = .ok (.bool (decide (wQueue = wEdge))) W := fun W => run_eql_str (P := Try.prog) 9 wQueue wEdge W
  have hs3 : ∀ y z W, (eqGuard BinOp.eql 9 y z (strOf wQueue) (.string { data := #[101, 100, 103, 101] })).run Try.prog W = .ok () W := fun _ _ _ => rfl
  rw [show decide (wQueue = wEdge) = false by decide] at hr3
  have hr4 : ∀ W, (binOp .eql 9 (strOf wQueue) (.string { data := #[113, 117, 101, 117, 101] })).run Try.prog W = .ok (.bool (decide (wQueue = wQueue))) W := fun W => run_eql_str (P := Try.prog) 9 wQueue wQueue W
  have hs4 : ∀ y z W, (eqGuard BinOp.eql 9 y z (strOf wQueue) (.string { data := #[113, 117, 101, 117, 101] })).run Try.prog W = .ok () W := fun _ _ _ => rfl
  rw [show decide (wQueue = wQueue) = true by decide] at hr4
  generalize wQueue = pb at *
  clear hw h hz hO h36 hpc
  go_enter Try.func36, Try.ntmps36
  by_cases h3 : ps.length = 3
  · have h3a : ((ps.length : Int) != 3) = false := by simp [h3]
    have h2d := h2c h3
    have q2 : (2 : Int) < (ps.length : Int) := by omega
    by_cases hm : x.modes = []
    · have hml : ((x.modes.length : Int) == 0) = true := by simp [hm]
      clear h2c hc2 hno hm
      go_wp2_with (first
        | (refine wpList_load_agg rfl 26 (.tmp 3) rfl rfl (cs := [.int .i64 x.res, vt, .slice ma x.modes.length mc, ve]) agg_image hB3.cellsAt ?_)
        | (refine stop_store 26 (.tmp 6) (.tmp 122) rfl ?_))
      constructor
      refine wpList_store_all rfl 26 (.tmp 6) (.tmp 122) rfl rfl rfl (vs := [.int .i64 x.res, vt, .slice ma x.modes.length mc, ve]) agg_image.2 hB6 hone rfl ?_
      intro wz dz kz
      have krz := KB.trans kz (fun y hy h => by simp at hy; omega)
      go_wp2
      refine bodyPost_ret (results_cell_tmp rfl _ rfl rfl dz agg_image) rfl ?_
      exact rline_no HO.out krz hN.out _
    · have hml : ((x.modes.length : Int) == 0) = false := by
        rw [beq_eq_false_iff_ne]
        have : x.modes.length ≠ 0 := fun h => hm (List.length_eq_zero_iff.1 h)
        omega
      have hwz : wordP polW (ps[2]'(by omega)) = 0 := by
        rcases hno with h1 | h1 | h1
        · exact absurd h3 h1
        · exact absurd h1 hm
        · rw [show ps.getD 2 { data := #[] } = ps[2]'(by omega) by simp [List.getD, h3]] at h1
          exact h1
      have HWD := fun W => Lib.hid (rword1_any (ps[2]'(by omega)) W)
      rw [hwz] at HWD
      generalize ps[2]'(by omega) = p2 at *
      clear h2c hc2 hno hwz hm
      go_wp2_with fail
      refine (HWD _).out.mono ?_
      rintro e w1 ⟨rfl, k1⟩
      have K1 := KB.then k1
      replace hB3 := hB3.keep0 k1
      replace hB6 := hB6.keep0 k1
      go_wp2_with (first
        | (refine wpList_load_agg rfl 26 (.tmp 3) rfl rfl (cs := [.int .i64 x.res, vt, .slice ma x.modes.length mc, ve]) agg_image hB3.cellsAt ?_)
        | (refine stop_store 26 (.tmp 6) (.tmp 122) rfl ?_))
      constructor
      refine wpList_store_all rfl 26 (.tmp 6) (.tmp 122) rfl rfl rfl (vs := [.int .i64 x.res, vt, .slice ma x.modes.length mc, ve]) agg_image.2 hB6 hone rfl ?_
      intro wz dz kz
      have krz := K1.trans kz (fun y hy h => by simp at hy; omega)
      go_wp2
      refine bodyPost_ret (results_cell_tmp rfl _ rfl rfl dz agg_image) rfl ?_
      exact rline_no HO.out krz hN.out _
  · have h3a : ((ps.length : Int) != 3) = true := by rw [bne_iff_ne]; omega
    clear h2c hc2 hno
    go_wp2_with (first
      | (refine wpList_load_agg rfl 26 (.tmp 3) rfl rfl (cs := [.int .i64 x.res, vt, .slice ma x.modes.length mc, ve]) agg_image hB3.cellsAt ?_)
      | (refine stop_store 26 (.tmp 6) (.tmp 122) rfl ?_))
    constructor
    refine wpList_store_all rfl 26 (.tmp 6) (.tmp 122) rfl rfl rfl (vs := [.int .i64 x.res, vt, .slice ma x.modes.length mc, ve]) agg_image.2 hB6 hone rfl ?_
    intro wz dz kz
    have krz := KB.trans kz (fun y hy h => by simp at hy; omega)
    go_wp2
    refine bodyPost_ret (results_cell_tmp rfl _ rfl rfl dz agg_image) rfl ?_
    exact rline_no HO.out krz hN.out _


theorem num_one {ps : List ByteArray} (h : ps.length = 3) : numL ((ps.drop 1).take 1) = (numP ps 1).map (fun n => [n]) := by
  match ps, h with
  | [p0, p1, p2], _ =>
    show numL [p1] = _
    have n1 : numP [p0, p1, p2] 1 = if (readP (bytesOf p1)).2 = 0 then some (readP (bytesOf p1)).1 else none := rfl
    rw [n1, numL_cons]
    by_cases h : (readP (bytesOf p1)).2 = 0
    · rw [if_pos h, if_pos h]; rfl
    · rw [if_neg h, if_neg h]; rfl

set_option maxRecDepth 100000 in
set_option maxHeartbeats 4000000 in
theorem rline_queue_bad (b bp op cc : Nat) (x : Img) (vt vm ve : Value) (ms : List (Mdd × Option Addr × Nat)) (ps : List ByteArray) (w : World) (hO : OwnImg w b x vt vm ve ms) (h : Reads w 1 (some ⟨bp, op, none⟩) ps.length (strs ps)) (hl : ps.length ≤ 1000001) (hcap : ps.length ≤ cc) (hz : ∀ p ∈ ps, p.size ≤ 1000000) (h0 : 0 < ps.length) (hw : bytesOf ps[0] = wQueue) (h3 : ps.length = 3) (hm : x.modes ≠ []) (hwd : wordP polW (ps.getD 2 { data := #[] }) ≠ 0) (hnn : numP ps 1 = none) :
    Calls Try.prog 36 #[.agg #[.int .i64 x.res, vt, vm, ve], .slice (some ⟨bp, op, none⟩) ps.length cc, .bool false] w (RLine w b (lineP x ps false)) := by
  have hN : Hid (lineP x ps false = none) := by
    show _ = _
    unfold lineP
    rw [show ps.getD 0 { data := #[] } = ps[0] by simp [List.getD, h0], hw]
    show (if x.modes = [] then none else (queueP ps).map fun q => { x with modes := addQ x.modes q }) = none
    rw [if_neg hm]
    unfold queueP
    rw [if_pos ⟨h3, hwd⟩, hnn]
    rfl
  obtain ⟨ma, mc, rfl⟩ := own_shape hO.modes
  have hpc : ∀ W, Keep [] w W → W.cell? ⟨bp, op, none⟩ = some (strOf (bytesOf ps[0])) := fun W hk => by
    obtain ⟨bp', op', e, hb', hc⟩ := (h.keep0 hk).addr h0
    cases e
    rw [strOf_bytes]
    exact hc 0 (.string ps[0]) (by simp [strs, h0])
  have hp0 : (0 : Int) < (ps.length : Int) := by omega
  have HO := Lib.hid hO
  have hone := hO.one x.res
  have KA : Keep [] w (w.alloc (.cells #[.int .i64 x.res, vt, .slice ma x.modes.length mc, ve] 26)) := (Keep.refl [] w).alloc _
  have KB := KA.alloc (.cells #[.int .i64 0, .slice none 0 0, .slice none 0 0, .slice none 0 0] 26)
  have hp2 := hpc _ KB
  have hB3 := ((Blk.new w 26 #[.int .i64 x.res, vt, .slice ma x.modes.length mc, ve]).alloc (.cells #[.int .i64 0, .slice none 0 0, .slice none 0 0, .slice none 0 0] 26))
  have hB6 := (Blk.new (w.alloc (.cells #[.int .i64 x.res, vt, .slice ma x.modes.length mc, ve] 26)) 26 #[.int .i64 0, .slice none 0 0, .slice none 0 0, .slice none 0 0])
  have h36 : (w.alloc (.cells #[.int .i64 x.res, vt, .slice ma x.modes.length mc, ve] 26)).heap.size = w.heap.size + 1 := by simp only [World.alloc, Array.size_push]
  rw [h36] at hB6
  rw [hw] at hpc hp2
  have hc2 : ∀ W, Keep [] w W → W.cell? ⟨bp, op + 2, none⟩ = some (.string (ps[2]'(by omega))) := fun W hk => by
    obtain ⟨bp', op', e, hb', hc⟩ := (h.keep0 hk).addr h0
    cases e
    exact hc 2 (.string (ps[2]'(by omega))) (by simp [strs, h3])
  have HNM := fun W (hk : Keep [] w W) => Lib.hid (rnumbers_any (some ⟨bp, op + 1, none⟩) (cc - 1) ((ps.drop 1).take 1) W (by rw [show ((ps.drop 1).take 1).length = 1 by simp; omega]; exact reads_part (h.keep0 hk) 1 1 (by omega)) (by simp; omega) (fun p hp => hz p (List.mem_of_mem_drop (List.mem_of_mem_take hp))))
  rw [num_one h3, hnn] at HNM
  have hl1 : ((ps.drop 1).take 1).length = 1 := by simp; omega
  rw [hl1] at HNM
  have hcm := hB3.cell 2
  have h2d := hc2 _ KB
  have hr0 : ∀ W, (binOp .eql 9 (strOf wQueue) (.string { data := #[114, 101, 115] })).run Try.prog W = .ok (.bool (decide (wQueue = wRes))) W := fun W => run_eql_str (P := Try.prog) 9 wQueue wRes W
  have hs0 : ∀ y z W, (eqGuard BinOp.eql 9 y z (strOf wQueue) (.string { data := #[114, 101, 115] })).run Try.prog W = .ok () W := fun _ _ _ => rfl
  rw [show decide (wQueue = wRes) = false by decide] at hr0
  have hr1 : ∀ W, (binOp .eql 9 (strOf wQueue) (.string { data := #[116, 97, 115, 107] })).run Try.prog W = .ok (.bool (decide (wQueue = wTask))) W := fun W => run_eql_str (P := Try.prog) 9 wQueue wTask W
  have hs1 : ∀ y z W, (eqGuard BinOp.eql 9 y z (strOf wQueue) (.string { data := #[116, 97, 115, 107] })).run Try.prog W = .ok () W := fun _ _ _ => rfl
  rw [show decide (wQueue = wTask) = false by decide] at hr1
  have hr2 : ∀ W, (binOp .eql 9 (strOf wQueue) (.string { data := #[109, 111, 100, 101] })).run Try.prog W = .ok (.bool (decide (wQueue = wMode))) W := fun W => run_eql_str (P := Try.prog) 9 wQueue wMode W
  have hs2 : ∀ y z W, (eqGuard BinOp.eql 9 y z (strOf wQueue) (.string { data := #[109, 111, 100, 101] })).run Try.prog W = .ok () W := fun _ _ _ => rfl
  rw [show decide (wQueue = wMode) = false by decide] at hr2
  have hr3 : ∀ W, (binOp .eql 9 (strOf wQueue) (.string { data := #[101, 100, 103, 101] })).run Try.prog W = .ok (.bool (decide (wQueue = wEdge))) W := fun W => run_eql_str (P := Try.prog) 9 wQueue wEdge W
  have hs3 : ∀ y z W, (eqGuard BinOp.eql 9 y z (strOf wQueue) (.string { data := #[101, 100, 103, 101] })).run Try.prog W = .ok () W := fun _ _ _ => rfl
  rw [show decide (wQueue = wEdge) = false by decide] at hr3
  have hr4 : ∀ W, (binOp .eql 9 (strOf wQueue) (.string { data := #[113, 117, 101, 117, 101] })).run Try.prog W = .ok (.bool (decide (wQueue = wQueue))) W := fun W => run_eql_str (P := Try.prog) 9 wQueue wQueue W
  have hs4 : ∀ y z W, (eqGuard BinOp.eql 9 y z (strOf wQueue) (.string { data := #[113, 117, 101, 117, 101] })).run Try.prog W = .ok () W := fun _ _ _ => rfl
  rw [show decide (wQueue = wQueue) = true by decide] at hr4
  generalize wQueue = pb at *
  have h3a : ((ps.length : Int) != 3) = false := by simp [h3]
  have q2 : (2 : Int) < (ps.length : Int) := by omega
  have q5 : (2 : Int) ≤ (cc : Int) := by omega
  have hml : ((x.modes.length : Int) == 0) = false := by
    rw [beq_eq_false_iff_ne]
    have : x.modes.length ≠ 0 := fun h => hm (List.length_eq_zero_iff.1 h)
    omega
  rw [show ps.getD 2 { data := #[] } = ps[2]'(by omega) by simp [List.getD, h3]] at hwd
  have HWD := fun W => Lib.hid (rword1_any (ps[2]'(by omega)) W)
  have hwz : (wordP polW (ps[2]'(by omega)) == 0) = false := by simpa using hwd
  generalize ps[2]'(by omega) = p2 at *
  generalize wordP polW p2 = wd at *
  clear hw h hz hO h36 hpc hc2 hm hwd hnn hl1 h3
  go_enter Try.func36, Try.ntmps36
  go_wp2_with fail
  refine (HWD _).out.mono ?_
  rintro e w1 ⟨rfl, k1⟩
  have K1 := KB.then k1
  replace hB3 := hB3.keep0 k1
  replace hB6 := hB6.keep0 k1
  clear k1
  go_wp2_with fail
  refine (HNM _ K1).out.mono ?_
  rintro e w2 ⟨k2, rfl⟩
  have K2 := K1.then k2
  replace hB3 := hB3.keep0 k2
  replace hB6 := hB6.keep0 k2
  clear k2
  go_wp2_with (first
    | (refine wpList_load_agg rfl 26 (.tmp 3) rfl rfl (cs := [.int .i64 x.res, vt, .slice ma x.modes.length mc, ve]) agg_image hB3.cellsAt ?_)
    | (refine stop_store 26 (.tmp 6) (.tmp 131) rfl ?_))
  constructor
  refine wpList_store_all rfl 26 (.tmp 6) (.tmp 131) rfl rfl rfl (vs := [.int .i64 x.res, vt, .slice ma x.modes.length mc, ve]) agg_image.2 hB6 hone rfl ?_
  intro wz dz kz
  have krz := K2.trans kz (fun y hy h => by simp at hy; omega)
  go_wp2
  refine bodyPost_ret (results_cell_tmp rfl _ rfl rfl dz agg_image) rfl ?_
  exact rline_no HO.out krz hN.out _

end Go.Proofs.Ytoepkhkaifgddaa
