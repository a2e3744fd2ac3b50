/- The document's line of an image: the arm of a queue; walked. Condition: short pieces, rows of less than a million. -/
import Derived.Test.YtoepkhkaifgddaaSrcRl
namespace Go.Proofs.Ytoepkhkaifgddaa
open Go.RowKit

section
variable {P : Program} {ops : Array Oper} {Q : Exit → Act → World → Prop} {a : Act} {w : World} {K : Act → World → Prop}
variable (i : Nat) {dst : Option Tmp} {op : Op} {tyy : TypeId} {pos : String} {after : Array Edge} {gd : Option (Nat × Bool)}
/-- 'append(out, x...)' in a region that draws its order. -/
theorem op_app_readsS {e : TypeId} {news : List Value} (s x : Operand) (t : TypeId) (hi : ops[i]? = some ⟨dst, op, tyy, pos, after, gd⟩) (hw : Region.wanted ⟨dst, op, tyy, pos, after, gd⟩ (yielded ops a.tmps) = true)
    (ho : op = .call { callee := .builtin .append, args := #[s, x], argTypes := #[t, t] })
    {size bytes : Nat} (hS : SliceOf P t e size bytes) {B : Nat} {v : Value} {n : Nat} {xs : List Value} (hown : w.ownsRow B e size v n xs) (hs : a.eval s = v) {A : Option Addr} {m c : Nat} (hr : Reads w size A m news) (hx : a.eval x = .slice A m c)
    (h1 : ∀ u ∈ news, u.oneCell' = true) (hB : B ≤ w.heap.size) (hb : (n + m) * bytes ≤ 140737488355328) (h63 : n + m ≤ maxLen)
    (h : ∀ v' w', w'.ownsRow B e size v' (n + m) (xs ++ news) → Keep v.ownBlock.toList w w' → K (a.put dst v') w') : wpOp P ops Q i K a w := by
  obtain ⟨v', w', hrun, h2, h3, _⟩ := run_append_reads (P := P) B t tyy hS v n xs hown A m c news hr h1 h63 hb hB
  refine wpOp_step hi (fun K' hK => ?_)
  rw [if_pos hw]
  unfold Oper.wp execOp
  simp only [ho, resolve, invoke, builtin, Sem.run_bind, Sem.run_pure, Result.andThen_ok, List.map_toArray, List.map_cons, List.map_nil, hs, hx, hrun]
  exact hK _ _ (h v' w' h2 h3)
end
section
variable {w w' : World} {base size g n cap : Nat} {e : TypeId} {xs : List Value}
/-- The block of a row of the call's own. -/
theorem own_blkS (h : w.ownsRow base e size (.slice (some ⟨g, 0, none⟩) n cap) n xs) : ∃ cur, Blk w g e cur ∧ base ≤ g ∧ (n ≤ cap ∧ cap ≤ maxLen ∧ cur.size = cap * size ∧ cur.toList.take (n * size) = xs) := by
  rcases h.2 with ⟨h1, _⟩ | ⟨g', cap', cur, hv, hb, hh, h1, h2, h3, h4⟩
  · cases h1
  · injection hv with e1 e2 e3
    injection e1 with e1
    injection e1 with e1
    subst e1 e3
    exact ⟨cur, hh, hb, h1, h2, h3, h4⟩
/-- Part of it is written over. -/
theorem own_spliceS {cur : Array Value} (h : w.ownsRow base e size (.slice (some ⟨g, 0, none⟩) n cap) n xs) (hbase : base ≤ g) (hc : n ≤ cap ∧ cap ≤ maxLen ∧ cur.size = cap * size ∧ cur.toList.take (n * size) = xs)
    {A O R O' : List Value} (hx : xs = A ++ (O ++ R)) (hl : O'.length = O.length) (hb : Blk w' g e (splice cur A.length O')) : w'.ownsRow base e size (.slice (some ⟨g, 0, none⟩) n cap) n (A ++ (O' ++ R)) := by
  obtain ⟨h1, h2, h3, h4⟩ := hc
  have hlen := h.1
  rw [hx] at hlen
  simp only [List.length_append] at hlen
  have hns : n * size ≤ cap * size := Nat.mul_le_mul_right _ h1
  refine ⟨by simp only [List.length_append]; omega, .inr ⟨g, cap, _, rfl, hbase, hb, h1, h2, by rw [splice_size]; exact h3, ?_⟩⟩
  have hcur : ∀ j, j < n * size → cur[j]? = xs[j]? := fun j hj => by
    rw [← h4, List.getElem?_take_of_lt hj]; simp
  apply List.ext_getElem?
  intro j
  rcases Nat.lt_or_ge j (n * size) with hj | hj
  · rw [List.getElem?_take_of_lt hj, Array.getElem?_toList, splice_get _ _ _ _ (by omega)]
    rcases Nat.lt_or_ge j A.length with g1 | g1
    · rw [if_neg (by omega), hcur j hj, hx, List.getElem?_append_left g1, List.getElem?_append_left g1]
    · rcases Nat.lt_or_ge j (A.length + O'.length) with g2 | g2
      · rw [if_pos ⟨g1, g2⟩, List.getElem?_append_right g1, List.getElem?_append_left (by omega)]
      · rw [if_neg (by omega), hcur j hj, hx, List.getElem?_append_right g1, List.getElem?_append_right g1, List.getElem?_append_right (by omega), List.getElem?_append_right (by omega), hl]
  · rw [List.getElem?_eq_none (by rw [List.length_take]; omega), List.getElem?_eq_none (by simp only [List.length_append]; omega)]
end


set_option maxRecDepth 100000 in
set_option maxHeartbeats 4000000 in
theorem rline_queue_yes (b bp op cc : Nat) (x : Img) (vt vm ve : Value) (ms : List (Mdd × Option Addr × Nat)) (ps : List ByteArray) (w : World) (hO : OwnImg w b x vt vm ve ms) (h : Reads w 1 (some ⟨bp, op, none⟩) ps.length (strs ps)) (hl : ps.length ≤ 1000001) (hcap : ps.length ≤ cc) (hz : ∀ p ∈ ps, p.size ≤ 1000000) (h0 : 0 < ps.length) (hw : bytesOf ps[0] = wQueue) (h3 : ps.length = 3) (hm : x.modes ≠ []) (hwd : wordP polW (ps.getD 2 { data := #[] }) ≠ 0) (nq : Int) (hnn : numP ps 1 = some nq) (hb : b ≤ w.heap.size) (hxl : ImgLe x 1000000) :
    Calls Try.prog 36 #[.agg #[.int .i64 x.res, vt, vm, ve], .slice (some ⟨bp, op, none⟩) ps.length cc, .bool false] w (RLine w b (lineP x ps false)) := by
  have hN : Hid (lineP x ps false = some { x with modes := addQ x.modes ⟨nq, wordP polW (ps.getD 2 { data := #[] })⟩ }) := by
    show _ = _
    unfold lineP
    rw [show ps.getD 0 { data := #[] } = ps[0] by simp [List.getD, h0], hw]
    show (if x.modes = [] then none else (queueP ps).map fun q => { x with modes := addQ x.modes q }) = _
    rw [if_neg hm]
    unfold queueP
    rw [if_pos ⟨h3, hwd⟩, hnn]
    rfl
  obtain ⟨ma, mc, rfl⟩ := own_shape hO.modes
  have hpc : ∀ W, Keep [] w W → W.cell? ⟨bp, op, none⟩ = some (strOf (bytesOf ps[0])) := fun W hk => by
    obtain ⟨bp', op', e, hb', hc⟩ := (h.keep0 hk).addr h0
    cases e
    rw [strOf_bytes]
    exact hc 0 (.string ps[0]) (by simp [strs, h0])
  have hp0 : (0 : Int) < (ps.length : Int) := by omega
  have HO := Lib.hid hO
  have hone := hO.one x.res
  have KA : Keep [] w (w.alloc (.cells #[.int .i64 x.res, vt, .slice ma x.modes.length mc, ve] 26)) := (Keep.refl [] w).alloc _
  have KB := KA.alloc (.cells #[.int .i64 0, .slice none 0 0, .slice none 0 0, .slice none 0 0] 26)
  have hp2 := hpc _ KB
  have hB3 := ((Blk.new w 26 #[.int .i64 x.res, vt, .slice ma x.modes.length mc, ve]).alloc (.cells #[.int .i64 0, .slice none 0 0, .slice none 0 0, .slice none 0 0] 26))
  have hB6 := (Blk.new (w.alloc (.cells #[.int .i64 x.res, vt, .slice ma x.modes.length mc, ve] 26)) 26 #[.int .i64 0, .slice none 0 0, .slice none 0 0, .slice none 0 0])
  have h36 : (w.alloc (.cells #[.int .i64 x.res, vt, .slice ma x.modes.length mc, ve] 26)).heap.size = w.heap.size + 1 := by simp only [World.alloc, Array.size_push]
  rw [h36] at hB6
  rw [hw] at hpc hp2
  have hc2 : ∀ W, Keep [] w W → W.cell? ⟨bp, op + 2, none⟩ = some (.string (ps[2]'(by omega))) := fun W hk => by
    obtain ⟨bp', op', e, hb', hc⟩ := (h.keep0 hk).addr h0
    cases e
    exact hc 2 (.string (ps[2]'(by omega))) (by simp [strs, h3])
  have HNM := fun W (hk : Keep [] w W) => Lib.hid (rnumbers_any (some ⟨bp, op + 1, none⟩) (cc - 1) ((ps.drop 1).take 1) W (by rw [show ((ps.drop 1).take 1).length = 1 by simp; omega]; exact reads_part (h.keep0 hk) 1 1 (by omega)) (by simp; omega) (fun p hp => hz p (List.mem_of_mem_drop (List.mem_of_mem_take hp))))
  rw [num_one h3, hnn] at HNM
  have hl1 : ((ps.drop 1).take 1).length = 1 := by simp; omega
  rw [hl1] at HNM
  have hcm := hB3.cell 2
  have h2d := hc2 _ KB
  have hr0 : ∀ W, (binOp .eql 9 (strOf wQueue) (.string { data := #[114, 101, 115] })).run Try.prog W = .ok (.bool (decide (wQueue = wRes))) W := fun W => run_eql_str (P := Try.prog) 9 wQueue wRes W
  have hs0 : ∀ y z W, (eqGuard BinOp.eql 9 y z (strOf wQueue) (.string { data := #[114, 101, 115] })).run Try.prog W = .ok () W := fun _ _ _ => rfl
  rw [show decide (wQueue = wRes) = false by decide] at hr0
  have hr1 : ∀ W, (binOp .eql 9 (strOf wQueue) (.string { data := #[116, 97, 115, 107] })).run Try.prog W = .ok (.bool (decide (wQueue = wTask))) W := fun W => run_eql_str (P := Try.prog) 9 wQueue wTask W
  have hs1 : ∀ y z W, (eqGuard BinOp.eql 9 y z (strOf wQueue) (.string { data := #[116, 97, 115, 107] })).run Try.prog W = .ok () W := fun _ _ _ => rfl
  rw [show decide (wQueue = wTask) = false by decide] at hr1
  have hr2 : ∀ W, (binOp .eql 9 (strOf wQueue) (.string { data := #[109, 111, 100, 101] })).run Try.prog W = .ok (.bool (decide (wQueue = wMode))) W := fun W => run_eql_str (P := Try.prog) 9 wQueue wMode W
  have hs2 : ∀ y z W, (eqGuard BinOp.eql 9 y z (strOf wQueue) (.string { data := #[109, 111, 100, 101] })).run Try.prog W = .ok () W := fun _ _ _ => rfl
  rw [show decide (wQueue = wMode) = false by decide] at hr2
  have hr3 : ∀ W, (binOp .eql 9 (strOf wQueue) (.string { data := #[101, 100, 103, 101] })).run Try.prog W = .ok (.bool (decide (wQueue = wEdge))) W := fun W => run_eql_str (P := Try.prog) 9 wQueue wEdge W
  have hs3 : ∀ y z W, (eqGuard BinOp.eql 9 y z (strOf wQueue) (.string { data := #[101, 100, 103, 101] })).run Try.prog W = .ok () W := fun _ _ _ => rfl
  rw [show decide (wQueue = wEdge) = false by decide] at hr3
  have hr4 : ∀ W, (binOp .eql 9 (strOf wQueue) (.string { data := #[113, 117, 101, 117, 101] })).run Try.prog W = .ok (.bool (decide (wQueue = wQueue))) W := fun W => run_eql_str (P := Try.prog) 9 wQueue wQueue W
  have hs4 : ∀ y z W, (eqGuard BinOp.eql 9 y z (strOf wQueue) (.string { data := #[113, 117, 101, 117, 101] })).run Try.prog W = .ok () W := fun _ _ _ => rfl
  rw [show decide (wQueue = wQueue) = true by decide] at hr4
  generalize wQueue = pb at *
  have h3a : ((ps.length : Int) != 3) = false := by simp [h3]
  have q2 : (2 : Int) < (ps.length : Int) := by omega
  have q5 : (2 : Int) ≤ (cc : Int) := by omega
  have hml : ((x.modes.length : Int) == 0) = false := by
    rw [beq_eq_false_iff_ne]
    have : x.modes.length ≠ 0 := fun h => hm (List.length_eq_zero_iff.1 h)
    omega
  rw [show ps.getD 2 { data := #[] } = ps[2]'(by omega) by simp [List.getD, h3]] at hwd
  have HWD := fun W => Lib.hid (rword1_any (ps[2]'(by omega)) W)
  have hwz : (wordP polW (ps[2]'(by omega)) == 0) = false := by simpa using hwd
  rw [show ps.getD 2 { data := #[] } = ps[2]'(by omega) by simp [List.getD, h3]] at hN
  generalize ps[2]'(by omega) = p2 at *
  generalize wordP polW p2 = wd at *
  clear hw h hz hO h36 hpc hm hwd hnn hl1 h3
  go_enter Try.func36, Try.ntmps36
  go_wp2_with fail
  refine (HWD _).out.mono ?_
  rintro e w1 ⟨rfl, k1⟩
  have K1 := KB.then k1
  replace hB3 := hB3.keep0 k1
  replace hB6 := hB6.keep0 k1
  clear k1
  go_wp2_with fail
  refine (HNM _ K1).out.mono ?_
  rintro e w2 ⟨k2, V, rfl, hrow⟩
  have K2 := K1.then k2
  replace hB3 := hB3.keep0 k2
  replace hB6 := hB6.keep0 k2
  obtain ⟨A', c', rfl⟩ := own_shape hrow
  obtain ⟨b', o', rfl, hb', hcc3⟩ := (Reads.of_own hrow).addr (by simp)
  have hn0 := hcc3 0 (.int .i64 nq) rfl
  simp only [Nat.add_zero] at hn0
  clear k2 hcc3 K1 HNM
  have KE := K2.alloc (.cells #[] 80)
  have kE := (Keep.refl [] w2).alloc (.cells #[] 80)
  have hl3 := hB3.lt
  have hl6 := hB6.lt
  replace hB3 := hB3.keep0 kE
  replace hB6 := hB6.keep0 kE
  have c32 := hB3.cell 2
  have hsz := K2.size
  have hn1 : (w2.alloc (.cells #[] 80)).cell? ⟨b', o', none⟩ = some (.int .i64 nq) := by rw [kE.cell hb' (by simp)]; exact hn0
  have hown0 : (w2.alloc (.cells #[] 80)).ownsRow w2.heap.size 80 2 (.slice (some ⟨w2.heap.size, 0, none⟩) 0 0) 0 [] := ⟨rfl, .inr ⟨w2.heap.size, 0, #[], rfl, by omega, Blk.new _ _ _, by omega, by unfold maxLen; omega, rfl, rfl⟩⟩
  have hxm := hxl.modes
  have hrd := Reads.of_own (HO.out.keep0 KE).modes
  go_wp2_with (refine stop_at 135 rfl ?_)
  constructor
  have hbE : w2.heap.size ≤ (w2.alloc (.cells #[] 80)).heap.size := kE.size
  refine wpList_append_reads rfl (.tmp 132) (.tmp 134) 23 rfl slice_mode hown0 rfl hrd rfl (fun u hu => by
    obtain ⟨m, _, hm2⟩ := List.mem_flatMap.1 hu
    simp only [mddCells, List.mem_cons, List.not_mem_nil, or_false] at hm2
    rcases hm2 with rfl | rfl <;> rfl) hbE (by omega) (by unfold maxLen; omega) ?_
  intro v' w3 hown3 k3 hat3
  rw [Nat.zero_add, List.nil_append] at hown3
  have K3 : Keep [] w w3 := (KE.mono (by simp)).trans k3 (fun y hy h => by simp [Value.ownBlock] at hy; omega)
  have k3E : Keep [w2.heap.size] (w2.alloc (.cells #[] 80)) w3 := k3.mono (fun y hy _ => by simpa [Value.ownBlock] using hy)
  have hB33 := hB3.keep k3 (fun hm => by simp [Value.ownBlock] at hm; omega)
  have hB63 := hB6.keep k3 (fun hm => by simp [Value.ownBlock] at hm; omega)
  have hn3 : w3.cell? ⟨b', o', none⟩ = some (.int .i64 nq) := by rw [k3.cell (Nat.lt_of_lt_of_le hb' kE.size) (fun hm => by simp [Value.ownBlock] at hm; omega)]; exact hn1
  obtain ⟨A3, c3, rfl⟩ := own_shape hown3
  have hne0 : ms ≠ [] := fun e => by
    have h1 := HO.out.len
    rw [e] at h1
    simp only [List.length_nil] at h1
    rw [← h1] at hml
    simp at hml
  obtain ⟨l, m, hlm⟩ : ∃ l m, ms = l ++ [m] := ⟨_, _, (List.dropLast_concat_getLast hne0).symm⟩
  have hxn : x.modes.length = l.length + 1 := by rw [← HO.out.len, hlm]; simp
  subst hlm
  have HO2 := Lib.hid HO.out
  have h3at : ∀ W, Keep [] w3 W → ∀ gm om, A3 = some ⟨gm, om, none⟩ → CellsAt W gm (om + l.length * 2) (mddCells m) := fun W hk gm om e => by
    obtain ⟨b9, o9, e9, h9⟩ := (Reads.of_own (own_keep0 hown3 hk)).elem (cells := mddCells) (l := l ++ [m]) (by simp [hxn]) (fun _ _ => rfl) l.length (by simp)
    rw [e] at e9
    cases e9
    have := h9.2
    rwa [List.getElem_append_right (Nat.le_refl _), List.getElem_singleton] at this
  obtain ⟨gm, cm, e3s, hgb, hgm, csm, hcsm⟩ := own_some hown3 (by omega)
  cases e3s
  have hC3 := h3at w3 (Keep.refl _ _) gm 0 rfl
  rw [Nat.zero_add] at hC3
  have hq1 : IntKind.i64.wrap ((x.modes.length : Int) - 1) = (l.length : Int) := by rw [hxn, show (((l.length + 1 : Nat) : Int) - 1) = (l.length : Int) by omega]; exact IntWalk.i64_in _ (by omega)
  have i0 : (0 : Int) ≤ (l.length : Int) := by omega
  have i1 : (l.length : Int) < (l.length : Int) + 1 := by omega
  have hNW : ∀ W, Keep [] w3 W → W.cell? ⟨b', o', none⟩ = some (.int .i64 nq) := fun W hk => by rw [hk.cell (World.block_lt_of_cell? _ _ hn3) (by simp)]; exact hn3
  have hP2 : ∀ W, Keep [] w W → W.cell? ⟨bp, op + 2, none⟩ = some (.string p2) := hc2
  go_wp2_with (refine stop_at 141 rfl ?_)
  constructor
  refine wpList_load_agg rfl 80 (.tmp 140) rfl rfl (cs := mddCells m) agg_mode hC3 ?_
  go_wp2_with (refine stop_store 80 (.tmp 19) (.tmp 141) rfl ?_)
  constructor
  refine wpList_store_all rfl 80 (.tmp 19) (.tmp 141) rfl rfl rfl (vs := mddCells m) agg_mode.2 (Blk.new _ _ _) (fun u hu => by simp only [mddCells, List.mem_cons, List.not_mem_nil, or_false] at hu; rcases hu with rfl | rfl <;> rfl) rfl ?_
  intro w4 d4 k4
  have kr4 : Keep [] w3 w4 := ((Keep.refl [] w3).alloc _).trans k4 (fun y hy h => by simp at hy h; omega)
  have K4 := K3.then kr4
  have hF : ∀ W, Keep [] w4 W → W.cell? ⟨w3.heap.size, 1, none⟩ = some (queV m) ∧ W.cell? ⟨b', o', none⟩ = some (.int .i64 nq) ∧ W.cell? ⟨bp, op + 2, none⟩ = some (.string p2) := fun W k => ⟨(d4.keep0 k).cell 1, hNW W (kr4.then k), hP2 W (K4.then k)⟩
  have HQL : Hid (m.1.qs.length ≤ 1000000) := hxl.ques m.1 (by rw [← HO2.out.eqm]; simp)
  have HMQ : Hid (∀ W, Keep [] w4 W → Reads W 2 m.2.1 m.1.qs.length (m.1.qs.flatMap queCells)) := fun W hk => (Reads.of_own (HO2.out.ques m (by simp))).keep0 (K4.then hk)
  have HQ1 : Hid (∀ u ∈ m.1.qs.flatMap queCells, u.oneCell' = true) := fun u hu => by
    obtain ⟨q, _, hq⟩ := List.mem_flatMap.1 hu
    exact iv_one _ u hq
  go_upto_region 28 with fail
  refine ap_begin 15 (Keep [] w4) rfl (Keep.refl _ _).drew (fun hS hPan => ?_) (fun _ _ d _ _ h => by cases d <;> exact h)
  (refine ap_val (v := ?_) 1 rfl (by kernel_rfl) (by kernel_rfl) (by kernel_rfl) (by kernel_rfl) (by rfl) hPan ?_ hS ?_; rotate_left; (intro w' hSw; go_simp; try with_reducible rfl); simp only [Act.put, List.setIfInBounds_toArray, List.set_cons_zero, List.set_cons_succ])
  (refine ap_val (v := ?_) 2 rfl (by kernel_rfl) (by kernel_rfl) (by kernel_rfl) (by kernel_rfl) (by rfl) hPan ?_ hS ?_; rotate_left; (intro w' hSw; obtain ⟨f1,f2,f3⟩ := hF w' hSw; go_simp; try with_reducible rfl); simp only [Act.put, List.setIfInBounds_toArray, List.set_cons_zero, List.set_cons_succ])
  (refine ap_val (v := ?_) 4 rfl (by kernel_rfl) (by kernel_rfl) (by kernel_rfl) (by kernel_rfl) (by rfl) hPan ?_ hS ?_; rotate_left; (intro w' hSw; go_simp; try with_reducible rfl); simp only [Act.put, List.setIfInBounds_toArray, List.set_cons_zero, List.set_cons_succ])
  (refine ap_val (v := ?_) 5 rfl (by kernel_rfl) (by kernel_rfl) (by kernel_rfl) (by kernel_rfl) (by rfl) hPan ?_ hS ?_; rotate_left; (intro w' hSw; go_simp; try with_reducible rfl); simp only [Act.put, List.setIfInBounds_toArray, List.set_cons_zero, List.set_cons_succ])
  (refine ap_val (v := ?_) 6 rfl (by kernel_rfl) (by kernel_rfl) (by kernel_rfl) (by kernel_rfl) (by rfl) hPan ?_ hS ?_; rotate_left; (intro w' hSw; obtain ⟨f1,f2,f3⟩ := hF w' hSw; go_simp; try with_reducible rfl); simp only [Act.put, List.setIfInBounds_toArray, List.set_cons_zero, List.set_cons_succ])
  (refine ap_val (v := ?_) 7 rfl (by kernel_rfl) (by kernel_rfl) (by kernel_rfl) (by kernel_rfl) (by rfl) hPan ?_ hS ?_; rotate_left; (intro w' hSw; go_simp; try with_reducible rfl); simp only [Act.put, List.setIfInBounds_toArray, List.set_cons_zero, List.set_cons_succ])
  (refine ap_val (v := ?_) 8 rfl (by kernel_rfl) (by kernel_rfl) (by kernel_rfl) (by kernel_rfl) (by rfl) hPan ?_ hS ?_; rotate_left; (intro w' hSw; go_simp; try with_reducible rfl); simp only [Act.put, List.setIfInBounds_toArray, List.set_cons_zero, List.set_cons_succ])
  (refine ap_val (v := ?_) 9 rfl (by kernel_rfl) (by kernel_rfl) (by kernel_rfl) (by kernel_rfl) (by rfl) hPan ?_ hS ?_; rotate_left; (intro w' hSw; obtain ⟨f1,f2,f3⟩ := hF w' hSw; go_simp; try with_reducible rfl); simp only [Act.put, List.setIfInBounds_toArray, List.set_cons_zero, List.set_cons_succ])
  generalize w4.drew = wv at *
  refine ap_one 0 (by kernel_rfl) ?_
  refine op_run (v := .slice (some ⟨wv.heap.size, 0, none⟩) 0 0) (w' := wv.alloc (.cells #[] 83)) 0 rfl (by rfl) (by go_simp) ?_
  have oE : (wv.alloc (.cells #[] 83)).ownsRow w4.heap.size 83 2 (.slice (some ⟨wv.heap.size, 0, none⟩) 0 0) 0 [] := ⟨rfl, .inr ⟨wv.heap.size, 0, #[], rfl, hS.size, Blk.new _ _ _, by omega, by unfold maxLen; omega, rfl, rfl⟩⟩
  have hgE := hS.size
  replace hS := hS.alloc (.cells #[] 83)
  obtain ⟨gE, hgE'⟩ : ∃ gE, wv.heap.size = gE := ⟨_, rfl⟩
  rw [hgE'] at oE hgE ⊢
  clear hgE'
  generalize wv.alloc (.cells #[] 83) = we at *
  refine ⟨fun _ => hS, ?_⟩
  (simp only [Act.put, List.setIfInBounds_toArray, List.set_cons_zero, List.set_cons_succ])
  refine ap_one 3 (by kernel_rfl) ?_
  refine op_app_readsS 3 (.tmp 142) (.tmp 144) 78 rfl (by rfl) rfl slice_queue oE rfl (HMQ.out _ hS) rfl HQ1.out hS.size (by have := HQL.out; omega) (by have := HQL.out; unfold maxLen; omega) ?_
  intro vA wa oA kA
  rw [Nat.zero_add, List.nil_append] at oA
  replace hS := hS.trans kA (fun y hy hlt => by simp [Value.ownBlock] at hy; omega)
  obtain ⟨Aq, cq, rfl⟩ := own_shape oA
  clear oE kA hgE
  refine ⟨fun _ => hS, ?_⟩
  (simp only [Act.put, List.setIfInBounds_toArray, List.set_cons_zero, List.set_cons_succ])
  refine ap_one 10 (by kernel_rfl) ?_
  refine op_call 10 rfl (by rfl) rfl (by simp only [List.map_toArray, List.map_cons, List.map_nil]; rfl) Try.func77 (by kernel_rfl) (by kernel_rfl) (HWD _).out (fun e wb hp => ?_)
  obtain ⟨rfl, k6⟩ := hp
  replace oA := own_keep0 oA k6
  replace hS := hS.then k6
  clear k6
  refine ⟨_, rfl, fun _ => hS, ?_⟩
  (simp only [Act.put, List.setIfInBounds_toArray, List.set_cons_zero, List.set_cons_succ])
  (refine ap_val (v := ?_) 11 rfl (by kernel_rfl) (by kernel_rfl) (by kernel_rfl) (by kernel_rfl) (by rfl) hPan ?_ hS ?_; rotate_left; (intro w' hSw; go_simp; try with_reducible rfl); simp only [Act.put, List.setIfInBounds_toArray, List.set_cons_zero, List.set_cons_succ])
  refine ap_one 12 (by kernel_rfl) ?_
  refine op_run (v := .slice (some ⟨wb.heap.size, 0, none⟩) 1 1) (w' := wb.alloc (.cells #[.int .i64 nq, .int .i64 wd] 83)) 12 rfl (by rfl) (exec_slice_one slice_queue (cs := [.int .i64 nq, .int .i64 wd]) rfl (by decide) rfl _) ?_
  have hD : Blk (wb.alloc (.cells #[.int .i64 nq, .int .i64 wd] 83)) wb.heap.size 83 #[.int .i64 nq, .int .i64 wd] := Blk.new _ _ _
  replace oA := own_keep0 oA ((Keep.refl [] wb).alloc (.cells #[.int .i64 nq, .int .i64 wd] 83))
  replace hS := hS.alloc (.cells #[.int .i64 nq, .int .i64 wd] 83)
  obtain ⟨gq, hgq⟩ : ∃ gq, wb.heap.size = gq := ⟨_, rfl⟩
  rw [hgq] at hD ⊢
  clear hgq
  generalize wb.alloc (.cells #[.int .i64 nq, .int .i64 wd] 83) = wz at *
  refine ⟨fun _ => hS, ?_⟩
  (simp only [Act.put, List.setIfInBounds_toArray, List.set_cons_zero, List.set_cons_succ])
  have hlo := row_base oA
  refine ap_one 13 (by kernel_rfl) ?_
  refine op_app 13 1 (.tmp 145) (.tmp 154) 78 rfl (by rfl) rfl slice_queue oA rfl (g := gq) rfl (us := [.int .i64 nq, .int .i64 wd]) hD.cellsAt rfl (by simp [Value.oneCell']) hS.size (by have := HQL.out; omega) (by have := HQL.out; unfold maxLen; omega) ?_
  intro vB wB oB kB _
  have hSB : Keep [] w4 wB := hS.trans kB (fun y hy hlt => by have := hlo y hy; omega)
  replace hS := hSB
  clear kB oA hD hlo
  obtain ⟨AB, cB, rfl⟩ := own_shape oB
  refine ⟨fun _ => hSB, ?_⟩
  (simp only [Act.put, List.setIfInBounds_toArray, List.set_cons_zero, List.set_cons_succ])
  (refine ap_val (v := ?_) 14 rfl (by kernel_rfl) (by kernel_rfl) (by kernel_rfl) (by kernel_rfl) (by rfl) hPan ?_ hS ?_; rotate_left; (intro w' hSw; go_simp; try with_reducible rfl); simp only [Act.put, List.setIfInBounds_toArray, List.set_cons_zero, List.set_cons_succ])
  refine ap_one 15 (by kernel_rfl) ?_
  refine op_store1 (v := .slice AB (m.1.qs.length + 1) cB) 15 rfl (by rfl) rfl rfl rfl (by kernel_rfl) rfl rfl ((d4.keep0 hSB).cell 1) ((d4.keep0 hSB).frozen 1) ?_
  have dC := (d4.keep0 hSB).set_ 1 (.slice AB (m.1.qs.length + 1) cB)
  have ks := keep_set wB w3.heap.size 1 (.slice AB (m.1.qs.length + 1) cB)
  have kC3 : Keep [] w3 (wB.setCell ⟨w3.heap.size, 1, none⟩ (.slice AB (m.1.qs.length + 1) cB)) := (kr4.then hSB).trans ks (fun y hy h => by simp at hy; omega)
  have oC := own_keep oB ks (fun g hg hm => by simp at hm; have h1 := row_base oB g (by simp [hg]); have h2 := d4.lt; omega)
  have oM3 := own_keep0 hown3 kC3
  refine ⟨fun h => (by cases h), ap_done (by kernel_rfl) ?_ _⟩
  (simp only [Act.put, List.setIfInBounds_toArray, List.set_cons_zero, List.set_cons_succ])
  clear hS hPan hSB oB ks
  generalize wB.setCell ⟨w3.heap.size, 1, none⟩ (.slice AB (m.1.qs.length + 1) cB) = w5 at *
  have dC' : Blk w5 w3.heap.size 80 #[.int .u32 (m.1.set : Int), .slice AB (m.1.qs.length + 1) cB] := dC
  obtain ⟨gx, hgx⟩ : ∃ gx, w3.heap.size = gx := ⟨_, rfl⟩
  rw [hgx] at dC' ⊢
  have oN3 := own_keep0 hown3 kC3
  have hgmlt := hgm
  rw [hgx] at hgm
  obtain ⟨cur, hcur, hbg, hparts⟩ := own_blkS oN3
  have hq0 : (l.flatMap mddCells).length = l.length * 2 := flat_len l (fun _ _ => rfl)
  have hszc : l.length * 2 + 2 ≤ cur.size := by
    obtain ⟨r1, r2, r3, r4⟩ := hparts
    have : x.modes.length * 2 ≤ c3 * 2 := Nat.mul_le_mul_right _ r1
    omega
  have HXI := Lib.hid (hB33.keep0 kC3)
  have HXR := Lib.hid (hB63.keep0 kC3)
  have HPT := Lib.hid hparts
  have HON := Lib.hid oN3
  have HBG := Lib.hid hbg
  have HCU := Lib.hid hcur
  have HSZ := Lib.hid hszc
  have HOC := Lib.hid oC
  have HK5 := Lib.hid (K3.then kC3)
  have HQ0 := Lib.hid hq0
  have HGM := Lib.hid hgm
  have HGM3 := Lib.hid hgmlt
  have HGX := Lib.hid hgx
  have HGW : Hid (w.heap.size ≤ gm) := by show _ ≤ _; omega
  have HBW : Hid (b ≤ w2.heap.size) := by show _ ≤ _; omega
  have HHO := Lib.hid hown3
  have HSQ := Lib.hid hsz
  have HK4S : Hid (w.heap.size ≤ w4.heap.size) := K4.size
  clear hcur hbg hparts oN3 oM3 oC dC hq0 hszc hB33 hB63 hown3 kC3 K3 hsz hF d4 kr4 K4 hgx hgm hgmlt hNW hP2 hn3 hC3 h3at
  go_wp2_with (first
    | (refine wpList_load_agg rfl 80 (.tmp 19) rfl rfl (cs := [.int .u32 (m.1.set : Int), .slice AB (m.1.qs.length + 1) cB]) agg_mode dC'.cellsAt ?_)
    | (refine stop_store 80 (.tmp 162) (.tmp 161) rfl ?_))
  constructor
  refine wpList_store_agg rfl 80 (.tmp 162) (.tmp 161) rfl (f := l.length * 2) rfl rfl (vs := [.int .u32 (m.1.set : Int), .slice AB (m.1.qs.length + 1) cB]) agg_mode.2 HCU.out (by simp [Value.oneCell']) HSZ.out ?_
  intro w6 d6 k6
  have hxg : gx ≠ gm := by have := HGM.out; have := HGX.out; have := HGM3.out; omega
  have hgR : gm ≠ w.heap.size := fun e => own_blk_ne HON.out HXI.out (by decide) (by rw [e]; rfl)
  have hgR1 : gm ≠ w.heap.size + 1 := fun e => own_blk_ne HON.out HXR.out (by decide) (by rw [e]; rfl)
  have d6' : Blk w6 gm 80 (splice cur (l.flatMap mddCells).length [.int .u32 (m.1.set : Int), .slice AB (m.1.qs.length + 1) cB]) := by rw [HQ0.out]; exact d6
  have oM6 := own_spliceS HON.out HBG.out HPT.out (A := l.flatMap mddCells) (O := mddCells m) (R := []) (O' := [.int .u32 (m.1.set : Int), .slice AB (m.1.qs.length + 1) cB]) (by simp) rfl d6'
  have oQ6 := own_keep HOC.out k6 (fun g hg hm => by simp at hm; subst hm; exact own_blk_ne HOC.out HCU.out (by decide) hg)
  have hI6 := HXI.out.keep k6 (by simp; exact Ne.symm hgR)
  have hR6 := HXR.out.keep k6 (by simp; exact Ne.symm hgR1)
  have K6 : Keep [] w w6 := HK5.out.trans k6 (fun y hy hlt => by simp at hy; subst hy; exact absurd hlt (by have := HGW.out; omega))
  have HM6 := Lib.hid oM6
  have HQ6 := Lib.hid oQ6
  have HK6 := Lib.hid K6
  have HR6 := Lib.hid hR6
  have cI2 := hI6.cell 2
  have fI2 := hI6.frozen 2
  simp at cI2
  have HI6 := Lib.hid hI6
  have HGR : Hid (gm ≠ w.heap.size ∧ gm ≠ w.heap.size + 1) := ⟨hgR, hgR1⟩
  have HQR : Hid (∀ g, (Value.slice AB (m.1.qs.length + 1) cB).ownBlock = some g → g ≠ w.heap.size ∧ g ≠ w.heap.size + 1 ∧ w.heap.size ≤ g) := fun g hg => ⟨fun e => own_blk_ne oQ6 hI6 (by decide) (by rw [hg, e]), fun e => own_blk_ne oQ6 hR6 (by decide) (by rw [hg, e]), by have := row_base oQ6 g (by simp [hg]); have := HK4S.out; omega⟩
  clear d6 d6' oM6 oQ6 k6 hxg hgR hgR1 hI6 hR6 K6 dC'
  go_wp2_with (first
    | (refine wpList_load_agg rfl 26 (.tmp 3) rfl rfl (cs := [.int .i64 x.res, vt, .slice (some ⟨gm, 0, none⟩) (l.length + 1) c3, ve]) agg_image (HI6.out.set_ 2 _).cellsAt ?_)
    | (refine stop_store 26 (.tmp 6) (.tmp 165) rfl ?_))
  constructor
  refine wpList_store_all rfl 26 (.tmp 6) (.tmp 165) rfl rfl rfl (vs := [.int .i64 x.res, vt, .slice (some ⟨gm, 0, none⟩) (l.length + 1) c3, ve]) agg_image.2 (HR6.out.far (by simp) _) (fun u hu => by
    simp only [List.mem_cons, List.not_mem_nil, or_false] at hu
    rcases hu with rfl | rfl | rfl | rfl
    · rfl
    · exact hone _ (by simp)
    · rfl
    · exact hone _ (by simp)) rfl ?_
  intro w8 d8 k8
  go_wp2
  refine bodyPost_ret (results_cell_tmp rfl _ rfl rfl d8 agg_image) rfl ?_
  have ks7 := keep_set w6 w.heap.size 2 (.slice (some ⟨gm, 0, none⟩) (l.length + 1) c3)
  have HN := hN.out
  refine ⟨_, true, rfl, rfl, fun u hu => ?_, by rw [HN]; rfl, Chg.of0 ((HK6.out.trans ks7 (fun y hy hlt => by simp at hy; omega)).trans k8 (fun y hy hlt => by simp at hy; omega)), fun y hy => ?_⟩
  · simp only [List.mem_cons, List.not_mem_nil, or_false] at hu
    rcases hu with rfl | rfl | rfl | rfl
    · rfl
    · exact hone _ (by simp)
    · rfl
    · exact hone _ (by simp)
  · rw [HN] at hy
    cases hy
    have hM8 := own_keep (own_keep HM6.out ks7 (fun g hg hm => by simp [Value.ownBlock] at hg hm; exact HGR.out.1 (by omega))) k8 (fun g hg hm => by simp [Value.ownBlock] at hg hm; exact HGR.out.2 (by omega))
    have hQ8 := own_keep (own_keep HQ6.out ks7 (fun g hg hm => by simp at hm; exact (HQR.out g hg).1 hm)) k8 (fun g hg hm => by simp at hm; exact (HQR.out g hg).2.1 hm)
    have hK8 := (HK6.out.trans ks7 (fun y hy hlt => by simp at hy; omega)).trans k8 (fun y hy hlt => by simp at hy; omega)
    refine ⟨_, _, _, _, rfl, OwnImg.fresh (A' := AB) (c' := cB) HO2.out ⟨nq, wd⟩ hK8 ?_ (own_base hQ8 (by have := HK4S.out; omega)) (fun g hg => (HQR.out g hg).2.2)⟩
    have hM9 := own_base hM8 HBW.out
    rw [hxn] at hM9 ⊢
    rw [List.append_nil] at hM9
    rw [List.flatMap_append]
    rw [show [((⟨m.1.set, m.1.qs ++ [⟨nq, wd⟩]⟩ : Mdd), AB, cB)].flatMap mddCells = [.int .u32 (m.1.set : Int), .slice AB (m.1.qs.length + 1) cB] by simp [mddCells]]
    exact hM9

end Go.Proofs.Ytoepkhkaifgddaa
