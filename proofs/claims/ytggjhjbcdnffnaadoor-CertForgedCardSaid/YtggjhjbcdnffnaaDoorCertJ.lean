/- A certificate of which a row says less: its words differ. No program in sight. The law CertForged. Condition: the table of math/bits lies where the program's text lays it. -/
import Derived.Test.YtggjhjbcdnffnaaDoorCertI
namespace Go.Proofs.YtggjhjbcdnffnaaDoor
open Go.RowKit
attribute [local go_sem] Oper.semAt_some

/-- One less in row k of mode m. -/
def lessRow (r : RowM) : RowM := { r with resp := IntKind.i64.wrap (r.resp - 1) }
def forge (c : Crt) (m k : Nat) (R : List RowM) (hk : k < R.length) : Crt := ⟨c.modes.set m (R.set k (lessRow R[k])), c.edges⟩
theorem set_flat {α β : Type} (f : α → List β) (l : List α) (k : Nat) (h : k < l.length) (a : α) : (l.set k a).flatMap f = (l.take k).flatMap f ++ (f a ++ (l.drop (k + 1)).flatMap f) := by
  have e := drop_flat f (l.set k a) k (by simpa using h)
  rw [e, List.take_set_of_le (Nat.le_refl _), List.getElem_set_self, List.drop_set_of_lt (by omega)]
theorem modW_append (a b : List Int) : modW (a ++ b) = modW a ++ modW b := List.map_append
theorem modW_cons (a : Int) (b : List Int) : modW (a :: b) = a % 4294967296 :: modW b := rfl
theorem forge_ne {c : Crt} {m k : Nat} (hm : m < c.modes.length) {R : List RowM} (hR : c.modes[m] = R) (hk : k < R.length) : eqW (wordsC (forge c m k R hk)) (wordsC c) = false ∧ eqW (wordsC c) (wordsC (forge c m k R hk)) = false := by
  have key : modW (wordsC (forge c m k R hk)) ≠ modW (wordsC c) := by
    intro h
    unfold wordsC forge at h
    simp only at h
    rw [set_flat rowsW c.modes m hm, drop_flat rowsW c.modes m hm, hR] at h
    unfold rowsW at h
    rw [set_flat rowT R k hk, drop_flat rowT R k hk] at h
    simp only [List.length_set, modW_cons, modW_append, List.cons_append, List.append_assoc, rowT, lessRow, List.nil_append] at h
    simp only [List.cons.injEq, true_and, List.append_cancel_left_eq, List.append_cancel_right_eq] at h
    have := h.1
    rw [IntKind.wrap_i64] at this
    omega
  exact ⟨decide_eq_false key, decide_eq_false (fun e => key e.symm)⟩
theorem forge_at {w : World} {v : CrtV} {c : Crt} {m k : Nat} (hx : CrtAt w v c) {vs : List Value} (hvl : vs.length = c.modes.length) (hvr : ∀ i, (h : i < c.modes.length) → ∃ A cp, vs[i]? = some (.slice A c.modes[i].length cp) ∧ Reads w 3 A c.modes[i].length (c.modes[i].flatMap rowCells))
    (hm : m < c.modes.length) {R : List RowM} (hR : c.modes[m] = R) (hk : k < R.length) {A2 A3 : Option Addr} {c2 c3 B B2 : Nat} (h2 : w.ownsRow B 76 1 (.slice A2 c.modes.length c2) c.modes.length (vs.set m (.slice A3 R.length c3)))
    (h3 : w.ownsRow B2 78 3 (.slice A3 R.length c3) R.length ((R.set k (lessRow R[k])).flatMap rowCells)) : CrtAt w ⟨A2, c2, v.ea, v.ec⟩ (forge c m k R hk) := by
  have e1 : (forge c m k R hk).modes.length = c.modes.length := by simp [forge]
  refine ⟨⟨vs.set m (.slice A3 R.length c3), by simp [hvl, forge], by rw [e1]; exact Reads.of_own h2, fun i hi => ?_⟩, hx.edges, by rw [e1]; exact hx.lm, hx.le, ?_⟩
  · have hi2 : i < c.modes.length := by rw [← e1]; exact hi
    by_cases him : i = m
    · subst him
      have e2 : (forge c i k R hk).modes[i]'hi = R.set k (lessRow R[k]) := by simp [forge]
      rw [e2, List.length_set]
      exact ⟨A3, c3, by rw [List.getElem?_set_self (by omega)], Reads.of_own h3⟩
    · have e2 : (forge c m k R hk).modes[i]'hi = c.modes[i] := by simp [forge, List.getElem_set_ne (Ne.symm him)]
      rw [e2]
      obtain ⟨A, cp, a, b⟩ := hvr i hi2
      exact ⟨A, cp, by rw [List.getElem?_set_ne (Ne.symm him)]; exact a, b⟩
  · intro r hr
    simp only [forge] at hr
    rcases List.mem_or_eq_of_mem_set hr with h | h
    · exact hx.lr r h
    · subst h
      rw [List.length_set, ← hR]
      exact hx.lr _ (List.getElem_mem hm)
theorem flat_setC {α : Type} {cells : α → List Value} {size : Nat} : ∀ (l : List α), (∀ a ∈ l, (cells a).length = size) → ∀ (k j : Nat) (hk : k < l.length) (a' : α) (u : Value), j < size → cells a' = (cells l[k]).set j u →
    (l.flatMap cells).set (k * size + j) u = (l.set k a').flatMap cells
  | [], _, k, j, hk, a', u, hj, he => by simp at hk
  | a :: l, h, k, j, hk, a', u, hj, he => by
    have ha := h a (by simp)
    cases k with
    | zero =>
      rw [List.set_cons_zero, List.flatMap_cons, List.flatMap_cons, he, List.set_append_left _ _ (by omega), Nat.zero_mul, Nat.zero_add]; rfl
    | succ k =>
      rw [List.set_cons_succ, List.flatMap_cons, List.flatMap_cons, List.set_append_right _ _ (by rw [ha, Nat.add_mul]; omega), ha, show (k + 1) * size + j - size = k * size + j by rw [Nat.add_mul]; omega,
        flat_setC l (fun b hb => h b (by simp [hb])) k j (by simpa using hk) a' u hj (by simpa using he)]
theorem own_emptyC (w : World) (e : TypeId) (size : Nat) : (w.alloc (.cells #[] e)).ownsRow w.heap.size e size (.slice (some ⟨w.heap.size, 0, none⟩) 0 0) 0 [] :=
  ⟨by simp, .inr ⟨w.heap.size, 0, #[], rfl, Nat.le_refl _, heap_alloc_new w _, Nat.le_refl _, by unfold maxLen; omega, by simp, by simp⟩⟩
theorem rowCells_len (r : RowM) : (rowCells r).length = 3 := rfl
theorem rows_one (l : List RowM) : ∀ u ∈ l.flatMap rowCells, u.oneCell' = true := fun u hu => by
  obtain ⟨e, _, he⟩ := List.mem_flatMap.1 hu
  simp [rowCells] at he
  rcases he with rfl | rfl | rfl <;> rfl
section
variable {P : Program} {ops : Array Oper} {Q : Exit → Act → World → Prop} {K : Act → World → Prop} {a : Act} {w : World}
variable (i : Nat) {dst : Option Tmp} {op : Op} {tyy : TypeId} {pos : String} {after : Array Edge} {gd : Option (Nat × Bool)}
/-- 'append(out, xs...)' in a region that draws its order: out is the call's own. -/
theorem op_app_reads {e : TypeId} {news : List Value} (s x : Operand) (t : TypeId) (hi : ops[i]? = some ⟨dst, op, tyy, pos, after, gd⟩) (hw : Region.wanted ⟨dst, op, tyy, pos, after, gd⟩ (yielded ops a.tmps) = true)
    (ho : op = .call { callee := .builtin .append, args := #[s, x], argTypes := #[t, t] })
    {size bytes : Nat} (hS : SliceOf P t e size bytes) {B : Nat} {v : Value} {n : Nat} {xs : List Value} (hown : w.ownsRow B e size v n xs) (hs : a.eval s = v) {A : Option Addr} {m c : Nat} (hr : Reads w size A m news) (hx : a.eval x = .slice A m c)
    (h1 : ∀ u ∈ news, u.oneCell' = true) (hB : B ≤ w.heap.size) (hb : (n + m) * bytes ≤ 140737488355328) (h63 : n + m ≤ maxLen)
    (h : ∀ v' w', w'.ownsRow B e size v' (n + m) (xs ++ news) → Keep v.ownBlock.toList w w' → K (a.put dst v') w') : wpOp P ops Q i K a w := by
  obtain ⟨v', w', hrun, h2, h3, _⟩ := run_append_reads (P := P) B t tyy hS v n xs hown A m c news hr h1 h63 hb hB
  refine wpOp_step hi (fun K' hK => ?_)
  rw [if_pos hw]
  unfold Oper.wp execOp
  simp only [ho, resolve, invoke, builtin, Sem.run_bind, Sem.run_pure, Result.andThen_ok, List.map_toArray, List.map_cons, List.map_nil, hs, hx, hrun]
  exact hK _ _ (h v' w' h2 h3)
end
section
variable {P : Program} {ops : Array Oper} {rest : List Oper} {o : Oper} {a : Act} {Q : Exit → Act → World → Prop} {w : World}
/-- One cell stored. -/
theorem wpList_store1C (hgd : o.guard = none) (ty : TypeId) (x y : Operand) (ho : o.op = .store ty x y) {b f : Nat} {u v : Value} (hx : a.eval x = .pointer (some ⟨b, f, none⟩)) (hy : a.eval y = v) (hz : (P.info? ty).map (·.size) = some 1) (hv : v.cells = #[v]) (h1 : v.oneCell' = true)
    (hc : w.cell? ⟨b, f, none⟩ = some u) (hf : w.frozen? ⟨b, f, none⟩ = false) (h : wpList P ops Q rest (a.put o.dst undef) (w.setCell ⟨b, f, none⟩ v)) : wpList P ops Q (o :: rest) a w := by
  have hst : (storeVar ty ⟨b, f, none⟩ v).run P w = .ok () (w.setCell ⟨b, f, none⟩ v) := by
    cases hq : P.info? ty with
    | none => simp [hq] at hz
    | some i =>
      have hs : i.size = 1 := by simpa [hq] using hz
      have hst1 : (store (⟨b, f, none⟩ : Addr) v).run P w = .ok () (w.setCell ⟨b, f, none⟩ v) := by
        rw [run_store P w _ v _ h1, hc, hf]; rfl
      have e0 : (⟨b, f, none⟩ : Addr).add 0 = ⟨b, f, none⟩ := by simp [Addr.add]
      simp [storeVar, Sem.run_bind, sizeOf, typeInfo, hq, hs, hv, storeCells, e0, hst1, Result.andThen]
  refine wpList_plain hgd fun K hK => ?_
  unfold Oper.wp execOp
  simp only [ho, hx, hy, Instr.storeAt, Instr.sureAddr, Sem.run_bind, Sem.run_pure, Result.andThen_ok, hst]
  exact hK _ _ h
end
theorem crt_c0 {w : World} {g : Nat} {v : CrtV} {c : Crt} (h : Blk w g 72 (crtCells v c).toArray) : w.cell? ⟨g, 0, none⟩ = some (.slice v.ma c.modes.length v.mc) ∧ w.cell? ⟨g, 1, none⟩ = some (.slice v.ea c.edges.length v.ec) := ⟨by rw [h.cell]; rfl, by rw [h.cell]; rfl⟩
theorem mod_in (z : Int) (n : Nat) (hn : 0 < n) : (-(n : Int) < z.tmod n ∧ z.tmod n < n) ∧ ∃ k : Nat, (z.tmod n + n).tmod (n : Int) = (k : Int) ∧ k < n := by
  have hr : -(n : Int) < z.tmod n ∧ z.tmod n < n := ⟨by have := Int.lt_tmod_of_pos z (b := (n : Int)) (by omega); omega, Int.tmod_lt_of_pos z (by omega)⟩
  have h1 := Int.tmod_nonneg (n : Int) (show 0 ≤ z.tmod n + n by omega)
  have h2 := Int.tmod_lt_of_pos (z.tmod n + n) (show (0 : Int) < (n : Int) by omega)
  exact ⟨hr, ((z.tmod n + n).tmod (n : Int)).toNat, by omega, by omega⟩
set_option maxRecDepth 100000 in
set_option maxHeartbeats 4000000 in
theorem forged_any (v : ImgV) (x : Img) (md ad : Int) (w : World) (hTb : Tab w) (h : ImgAt w v x) :
    Calls Tryd.prog 8 #[.agg (imgCells v x).toArray, .int .i64 md, .int .i64 ad] w fun e w' => e = .returned (.bool true) ∧ Keep [] w w' := by
  obtain ⟨W0, hW0⟩ : ∃ W0, w.alloc (.cells (imgCells v x).toArray 26) = W0 := ⟨_, rfl⟩
  have b0 : Blk W0 w.heap.size 26 (imgCells v x).toArray := by rw [← hW0]; exact img_box w v x
  have K0 : Keep [] w W0 := by rw [← hW0]; exact (Keep.refl [] w).alloc _
  have hz0 : W0.heap.size = w.heap.size + 1 := by rw [← hW0]; simp
  have HIC : Hid ((imgCells v x).length = 4) := show _ = _ from rfl
  have HCI : Hid (∀ w', Keep [] W0 w' → CellsAt w' w.heap.size 0 (imgCells v x)) := fun w' hk => (b0.keep0 hk).cellsAt
  have HFe := Lib.hid (few21_any v x W0 (h.keep0 K0))
  have HAd := fun w' (k : Keep [] W0 w') => Lib.hid (admit_any v x w' (hTb.keep0 (K0.then k)) (h.keep0 (K0.then k)))
  have HAl := fun w' (k : Keep [] W0 w') => Lib.hid (alive21 w' (hTb.keep0 (K0.then k)))
  have HHo := fun vc c w' (k : Keep [] W0 w') hc => Lib.hid (holds_any v x vc c w' (hTb.keep0 (K0.then k)) (h.keep0 (K0.then k)) hc)
  have HHB : Hid (∀ c, holdsB c x = (((admM x).2.2 == 0) && eqW (wordsC c) (wordsC (admM x).1))) := fun c => rfl
  have HK0 := Lib.hid K0
  have HZ0 := Lib.hid hz0
  have HW := Lib.hid hW0
  clear hTb h b0 K0 hW0 hz0
  generalize imgCells v x = il at *
  generalize few21 x = fb at *
  generalize admM x = r at *
  obtain ⟨c, at2, er⟩ := r
  simp only at HHB
  cases fb with
  | false =>
    go_enter Tryd.func8, Tryd.ntmps8
    go_wp2_with (first
      | rw [HW.out]
      | (refine wpList_load_agg rfl 26 (.tmp 3) rfl rfl (cs := il) (by rw [HIC.out]; exact agg_image) (HCI.out _ (Keep.refl _ _)) ?_))
    refine HFe.out.mono ?_
    rintro e w1 ⟨rfl, k1⟩
    go_wp2
    go_ret
    exact ⟨rfl, HK0.out.then k1⟩
  | true =>
  go_enter Tryd.func8, Tryd.ntmps8
  go_wp2_with (first
    | rw [HW.out]
    | (refine wpList_load_agg rfl 26 (.tmp 3) rfl rfl (cs := il) (by rw [HIC.out]; exact agg_image) (HCI.out _ (Keep.refl _ _)) ?_))
  refine HFe.out.mono ?_
  rintro e w1 ⟨rfl, k1⟩
  have hc1 := Lib.hid (HCI.out w1 k1)
  have HA1 := HAd w1 k1
  have HK1 := Lib.hid k1
  clear HFe HAd k1
  go_wp2_with (refine wpList_load_agg rfl 26 (.tmp 3) rfl rfl (cs := il) (by rw [HIC.out]; exact agg_image) hc1.out ?_)
  refine HA1.out.mono ?_
  rintro e w2 ⟨⟨ma, mc, ea, ec⟩, rfl, hd, k2⟩
  have HDC : Hid ((crtCells ⟨ma, mc, ea, ec⟩ c).length = 2) := show _ = _ from rfl
  have hone : Hid (∀ u ∈ crtCells ⟨ma, mc, ea, ec⟩ c, u.oneCell' = true) := crt_one _ c
  have HC0 : Hid (∀ g w', Blk w' g 72 (crtCells ⟨ma, mc, ea, ec⟩ c).toArray → w'.cell? ⟨g, 0, none⟩ = some (.slice ma c.modes.length mc) ∧ w'.cell? ⟨g, 1, none⟩ = some (.slice ea c.edges.length ec)) := fun g w' h => crt_c0 h
  have hlm := hd.lm
  have hlr := hd.lr
  have HD := Lib.hid hd
  have HLM := Lib.hid hlm
  have HLR := Lib.hid hlr
  have HK2 := Lib.hid (HK1.out.then k2)
  clear HA1 k2 hd hc1 HK1 hlm hlr
  simp only
  obtain ⟨dl, hdl⟩ : ∃ dl, crtCells ⟨ma, mc, ea, ec⟩ c = dl := ⟨_, rfl⟩
  have HDL := Lib.hid hdl
  clear hdl
  rw [HDL.out] at HDC hone HC0
  rw [HDL.out]
  go_wp2_with (refine stop_store 72 (.tmp 7) (.tmp 19) rfl ?_)
  constructor
  refine wpList_store_all rfl 72 (.tmp 7) (.tmp 19) rfl rfl rfl (vs := dl) (by rw [HDC.out]; exact agg_cert.2) (Blk.new _ _ _) hone.out ?_ ?_
  · rw [HDC.out]; rfl
  intro w3 d3 k3
  have k23 : Keep [] w2 w3 := ((Keep.refl [] w2).alloc _).trans k3 (fun y hy hlt => by simp at hy; omega)
  have HK3 := Lib.hid (HK2.out.then k23)
  have HD3 := Lib.hid (HD.out.keep0 k23)
  have HB3 := Lib.hid d3
  have HG7 : Hid (W0.heap.size ≤ w2.heap.size) := HK2.out.size
  obtain ⟨q0, q1⟩ := HC0.out _ _ d3
  clear k3 k23 d3 HD HK2
  have HAl3 := HAl w3 HK3.out
  by_cases hz : er = 0
  rotate_left
  · have hz1 : (er != 0) = true := by simpa using hz
    clear hz HHo HHB HAl HC0
    go_wp2_with fail
    refine HAl3.out.mono ?_
    rintro e w4 ⟨rfl, k4⟩
    go_wp2
    go_ret
    exact ⟨rfl, HK0.out.then (HK3.out.then k4)⟩
  subst hz
  by_cases hn0 : c.modes.length = 0
  · have hb1 : ((c.modes.length : Int) == 0) = true := by simpa using hn0
    clear HHo HHB HAl HC0
    go_wp2_with fail
    refine HAl3.out.mono ?_
    rintro e w4 ⟨rfl, k4⟩
    go_wp2
    go_ret
    exact ⟨rfl, HK0.out.then (HK3.out.then k4)⟩
  have hb1 : ((c.modes.length : Int) == 0) = false := beq_eq_false_iff_ne.2 (by omega)
  have hlm := HLM.out
  obtain ⟨⟨hr1, hr2⟩, m, hm1, hm2⟩ := mod_in md c.modes.length (by omega)
  obtain ⟨bm, om, hma, hbm, hmo⟩ := HD3.out.mode (by omega)
  obtain ⟨A, cp, q2, hrd⟩ := hmo m hm2
  simp only at hma
  subst hma
  have hlR := HLR.out _ (List.getElem_mem hm2)
  have hR : Hid (c.modes[m] = c.modes[m]) := rfl
  have HMR : Hid (∀ R, c.modes[m] = R → c.modes[m]'hm2 = R) := fun R h => h
  clear hmo
  have HRd := Lib.hid hrd
  have HLRR := Lib.hid hlR
  clear hrd hlR
  obtain ⟨R, hRe⟩ : ∃ R, c.modes[m] = R := ⟨_, rfl⟩
  rw [hRe] at q2 HRd HLRR
  have HRe := Lib.hid hRe
  clear hRe hR HMR
  have hcF : Hid (∀ w', Keep [] w3 w' → w'.cell? ⟨w2.heap.size, 0, none⟩ = some (.slice (some ⟨bm, om, none⟩) c.modes.length mc) ∧ w'.cell? ⟨bm, om + m, none⟩ = some (.slice A R.length cp)) := fun w' hk =>
    ⟨(HC0.out _ _ (HB3.out.keep0 hk)).1, (hk.cell (p := ⟨bm, om + m, none⟩) hbm (by simp)).trans q2⟩
  have hF := hcF.out
  generalize hr : md.tmod (c.modes.length : Int) = r1 at *
  go_wp2_with fail
  clear q0 q1 q2
  refine ap_begin 13 (Keep [] w3) rfl (Keep.refl _ _).drew (fun hS hPan => ?_) (fun _ _ d _ _ h => by cases d <;> exact h)
  (refine ap_val (v := ?_) 0 rfl (by kernel_rfl) (by kernel_rfl) (by kernel_rfl) (by kernel_rfl) (by rfl) hPan ?_ hS ?_; rotate_left; (intro w' hSw; obtain ⟨f1,f2⟩ := hF w' hSw; go_simp; try with_reducible rfl); simp only [Act.put, List.setIfInBounds_toArray, List.set_cons_zero, List.set_cons_succ])
  (refine ap_val (v := ?_) 1 rfl (by kernel_rfl) (by kernel_rfl) (by kernel_rfl) (by kernel_rfl) (by rfl) hPan ?_ hS ?_; rotate_left; (intro w' hSw; obtain ⟨f1,f2⟩ := hF w' hSw; go_simp; try with_reducible rfl); simp only [Act.put, List.setIfInBounds_toArray, List.set_cons_zero, List.set_cons_succ])
  (refine ap_val (v := ?_) 2 rfl (by kernel_rfl) (by kernel_rfl) (by kernel_rfl) (by kernel_rfl) (by rfl) hPan ?_ hS ?_; rotate_left; (intro w' hSw; obtain ⟨f1,f2⟩ := hF w' hSw; go_simp; try with_reducible rfl); simp only [Act.put, List.setIfInBounds_toArray, List.set_cons_zero, List.set_cons_succ])
  (refine ap_val (v := ?_) 3 rfl (by kernel_rfl) (by kernel_rfl) (by kernel_rfl) (by kernel_rfl) (by rfl) hPan ?_ hS ?_; rotate_left; (intro w' hSw; obtain ⟨f1,f2⟩ := hF w' hSw; go_simp; try with_reducible rfl); simp only [Act.put, List.setIfInBounds_toArray, List.set_cons_zero, List.set_cons_succ])
  (refine ap_val (v := ?_) 4 rfl (by kernel_rfl) (by kernel_rfl) (by kernel_rfl) (by kernel_rfl) (by rfl) hPan ?_ hS ?_; rotate_left; (intro w' hSw; obtain ⟨f1,f2⟩ := hF w' hSw; go_simp; try with_reducible rfl); simp only [Act.put, List.setIfInBounds_toArray, List.set_cons_zero, List.set_cons_succ])
  (refine ap_val (v := ?_) 5 rfl (by kernel_rfl) (by kernel_rfl) (by kernel_rfl) (by kernel_rfl) (by rfl) hPan ?_ hS ?_; rotate_left; (intro w' hSw; obtain ⟨f1,f2⟩ := hF w' hSw; go_simp; try with_reducible rfl); simp only [Act.put, List.setIfInBounds_toArray, List.set_cons_zero, List.set_cons_succ])
  (refine ap_val (v := ?_) 6 rfl (by kernel_rfl) (by kernel_rfl) (by kernel_rfl) (by kernel_rfl) (by rfl) hPan ?_ hS ?_; rotate_left; (intro w' hSw; obtain ⟨f1,f2⟩ := hF w' hSw; go_simp; try with_reducible rfl); simp only [Act.put, List.setIfInBounds_toArray, List.set_cons_zero, List.set_cons_succ])
  (refine ap_val (v := ?_) 7 rfl (by kernel_rfl) (by kernel_rfl) (by kernel_rfl) (by kernel_rfl) (by rfl) hPan ?_ hS ?_; rotate_left; (intro w' hSw; obtain ⟨f1,f2⟩ := hF w' hSw; go_simp; try with_reducible rfl); simp only [Act.put, List.setIfInBounds_toArray, List.set_cons_zero, List.set_cons_succ])
  have hwr : IntKind.i64.wrap (r1 + c.modes.length) = r1 + c.modes.length := IntWalk.i64_in _ (by omega)
  (refine ap_val (v := ?_) 8 rfl (by kernel_rfl) (by kernel_rfl) (by kernel_rfl) (by kernel_rfl) (by rfl) hPan ?_ hS ?_; rotate_left; (intro w' hSw; obtain ⟨f1,f2⟩ := hF w' hSw; go_simp; try with_reducible rfl); simp only [Act.put, List.setIfInBounds_toArray, List.set_cons_zero, List.set_cons_succ])
  clear hwr
  (refine ap_val (v := ?_) 9 rfl (by kernel_rfl) (by kernel_rfl) (by kernel_rfl) (by kernel_rfl) (by rfl) hPan ?_ hS ?_; rotate_left; (intro w' hSw; obtain ⟨f1,f2⟩ := hF w' hSw; go_simp; try with_reducible rfl); simp only [Act.put, List.setIfInBounds_toArray, List.set_cons_zero, List.set_cons_succ])
  (refine ap_val (v := ?_) 10 rfl (by kernel_rfl) (by kernel_rfl) (by kernel_rfl) (by kernel_rfl) (by rfl) hPan ?_ hS ?_; rotate_left; (intro w' hSw; obtain ⟨f1,f2⟩ := hF w' hSw; go_simp; try with_reducible rfl); simp only [Act.put, List.setIfInBounds_toArray, List.set_cons_zero, List.set_cons_succ])
  (refine ap_val (v := ?_) 11 rfl (by kernel_rfl) (by kernel_rfl) (by kernel_rfl) (by kernel_rfl) (by rfl) hPan ?_ hS ?_; rotate_left; (intro w' hSw; obtain ⟨f1,f2⟩ := hF w' hSw; go_simp; try with_reducible rfl); simp only [Act.put, List.setIfInBounds_toArray, List.set_cons_zero, List.set_cons_succ])
  (refine ap_val (v := ?_) 12 rfl (by kernel_rfl) (by kernel_rfl) (by kernel_rfl) (by kernel_rfl) (by rfl) hPan ?_ hS ?_; rotate_left; (intro w' hSw; obtain ⟨f1,f2⟩ := hF w' hSw; go_simp; try with_reducible rfl); simp only [Act.put, List.setIfInBounds_toArray, List.set_cons_zero, List.set_cons_succ])
  refine ap_one 13 (by kernel_rfl) ?_
  refine op_run (v := .int .i64 (m : Int)) (w' := w3.drew) 13 rfl (by rfl) (by go_simp) ?_
  refine ⟨fun _ => hS, ap_done (by kernel_rfl) ?_ _⟩
  (simp only [Act.put, List.setIfInBounds_toArray, List.set_cons_zero, List.set_cons_succ])
  have HS4 := Lib.hid hS
  clear hS hPan
  generalize w3.drew = w4 at *
  have p0 : (0 : Int) ≤ (m : Int) := by omega
  have p1 : (m : Int) < (c.modes.length : Int) := by omega
  obtain ⟨f1, f2⟩ := hF _ HS4.out
  have HM1 := Lib.hid hm1
  have HM2 := Lib.hid hm2
  clear hm1 hr1 hr2 hr hF
  by_cases hR0 : R.length = 0
  · have hb2 : ((R.length : Int) == 0) = true := by simpa using hR0
    have HA4 := HAl w4 (HK3.out.then HS4.out)
    clear HHo HHB HAl HC0
    go_wp2_with fail
    refine HA4.out.mono ?_
    rintro e w5 ⟨rfl, k5⟩
    go_wp2
    go_ret
    exact ⟨rfl, HK0.out.then (HK3.out.then (HS4.out.then k5))⟩
  have hb2 : ((R.length : Int) == 0) = false := beq_eq_false_iff_ne.2 (by omega)
  have hlR := HLRR.out
  obtain ⟨⟨hr1, hr2⟩, k, hm1, hm2⟩ := mod_in ad R.length (by omega)
  generalize hr : ad.tmod (R.length : Int) = r2 at *
  go_wp2_with fail
  clear f1 f2
  have hF : ∀ w', Keep [] w4 w' → w'.cell? ⟨w2.heap.size, 0, none⟩ = some (.slice (some ⟨bm, om, none⟩) c.modes.length mc) ∧ w'.cell? ⟨bm, om + m, none⟩ = some (.slice A R.length cp) := fun w' hk => hcF.out w' (HS4.out.then hk)
  refine ap_begin 22 (Keep [] w4) rfl (Keep.refl _ _).drew (fun hS hPan => ?_) (fun _ _ d _ _ h => by cases d <;> exact h)
  (refine ap_val (v := ?_) 0 rfl (by kernel_rfl) (by kernel_rfl) (by kernel_rfl) (by kernel_rfl) (by rfl) hPan ?_ hS ?_; rotate_left; (intro w' hSw; obtain ⟨f1,f2⟩ := hF w' hSw; go_simp; try with_reducible rfl); simp only [Act.put, List.setIfInBounds_toArray, List.set_cons_zero, List.set_cons_succ])
  (refine ap_val (v := ?_) 1 rfl (by kernel_rfl) (by kernel_rfl) (by kernel_rfl) (by kernel_rfl) (by rfl) hPan ?_ hS ?_; rotate_left; (intro w' hSw; obtain ⟨f1,f2⟩ := hF w' hSw; go_simp; try with_reducible rfl); simp only [Act.put, List.setIfInBounds_toArray, List.set_cons_zero, List.set_cons_succ])
  (refine ap_val (v := ?_) 2 rfl (by kernel_rfl) (by kernel_rfl) (by kernel_rfl) (by kernel_rfl) (by rfl) hPan ?_ hS ?_; rotate_left; (intro w' hSw; obtain ⟨f1,f2⟩ := hF w' hSw; go_simp; try with_reducible rfl); simp only [Act.put, List.setIfInBounds_toArray, List.set_cons_zero, List.set_cons_succ])
  (refine ap_val (v := ?_) 3 rfl (by kernel_rfl) (by kernel_rfl) (by kernel_rfl) (by kernel_rfl) (by rfl) hPan ?_ hS ?_; rotate_left; (intro w' hSw; obtain ⟨f1,f2⟩ := hF w' hSw; go_simp; try with_reducible rfl); simp only [Act.put, List.setIfInBounds_toArray, List.set_cons_zero, List.set_cons_succ])
  (refine ap_val (v := ?_) 4 rfl (by kernel_rfl) (by kernel_rfl) (by kernel_rfl) (by kernel_rfl) (by rfl) hPan ?_ hS ?_; rotate_left; (intro w' hSw; obtain ⟨f1,f2⟩ := hF w' hSw; go_simp; try with_reducible rfl); simp only [Act.put, List.setIfInBounds_toArray, List.set_cons_zero, List.set_cons_succ])
  (refine ap_val (v := ?_) 5 rfl (by kernel_rfl) (by kernel_rfl) (by kernel_rfl) (by kernel_rfl) (by rfl) hPan ?_ hS ?_; rotate_left; (intro w' hSw; obtain ⟨f1,f2⟩ := hF w' hSw; go_simp; try with_reducible rfl); simp only [Act.put, List.setIfInBounds_toArray, List.set_cons_zero, List.set_cons_succ])
  (refine ap_val (v := ?_) 6 rfl (by kernel_rfl) (by kernel_rfl) (by kernel_rfl) (by kernel_rfl) (by rfl) hPan ?_ hS ?_; rotate_left; (intro w' hSw; obtain ⟨f1,f2⟩ := hF w' hSw; go_simp; try with_reducible rfl); simp only [Act.put, List.setIfInBounds_toArray, List.set_cons_zero, List.set_cons_succ])
  (refine ap_val (v := ?_) 7 rfl (by kernel_rfl) (by kernel_rfl) (by kernel_rfl) (by kernel_rfl) (by rfl) hPan ?_ hS ?_; rotate_left; (intro w' hSw; obtain ⟨f1,f2⟩ := hF w' hSw; go_simp; try with_reducible rfl); simp only [Act.put, List.setIfInBounds_toArray, List.set_cons_zero, List.set_cons_succ])
  (refine ap_val (v := ?_) 8 rfl (by kernel_rfl) (by kernel_rfl) (by kernel_rfl) (by kernel_rfl) (by rfl) hPan ?_ hS ?_; rotate_left; (intro w' hSw; obtain ⟨f1,f2⟩ := hF w' hSw; go_simp; try with_reducible rfl); simp only [Act.put, List.setIfInBounds_toArray, List.set_cons_zero, List.set_cons_succ])
  (refine ap_val (v := ?_) 9 rfl (by kernel_rfl) (by kernel_rfl) (by kernel_rfl) (by kernel_rfl) (by rfl) hPan ?_ hS ?_; rotate_left; (intro w' hSw; obtain ⟨f1,f2⟩ := hF w' hSw; go_simp; try with_reducible rfl); simp only [Act.put, List.setIfInBounds_toArray, List.set_cons_zero, List.set_cons_succ])
  (refine ap_val (v := ?_) 10 rfl (by kernel_rfl) (by kernel_rfl) (by kernel_rfl) (by kernel_rfl) (by rfl) hPan ?_ hS ?_; rotate_left; (intro w' hSw; obtain ⟨f1,f2⟩ := hF w' hSw; go_simp; try with_reducible rfl); simp only [Act.put, List.setIfInBounds_toArray, List.set_cons_zero, List.set_cons_succ])
  (refine ap_val (v := ?_) 11 rfl (by kernel_rfl) (by kernel_rfl) (by kernel_rfl) (by kernel_rfl) (by rfl) hPan ?_ hS ?_; rotate_left; (intro w' hSw; obtain ⟨f1,f2⟩ := hF w' hSw; go_simp; try with_reducible rfl); simp only [Act.put, List.setIfInBounds_toArray, List.set_cons_zero, List.set_cons_succ])
  (refine ap_val (v := ?_) 12 rfl (by kernel_rfl) (by kernel_rfl) (by kernel_rfl) (by kernel_rfl) (by rfl) hPan ?_ hS ?_; rotate_left; (intro w' hSw; obtain ⟨f1,f2⟩ := hF w' hSw; go_simp; try with_reducible rfl); simp only [Act.put, List.setIfInBounds_toArray, List.set_cons_zero, List.set_cons_succ])
  (refine ap_val (v := ?_) 13 rfl (by kernel_rfl) (by kernel_rfl) (by kernel_rfl) (by kernel_rfl) (by rfl) hPan ?_ hS ?_; rotate_left; (intro w' hSw; obtain ⟨f1,f2⟩ := hF w' hSw; go_simp; try with_reducible rfl); simp only [Act.put, List.setIfInBounds_toArray, List.set_cons_zero, List.set_cons_succ])
  have hwr : IntKind.i64.wrap (r2 + R.length) = r2 + R.length := IntWalk.i64_in _ (by omega)
  (refine ap_val (v := ?_) 14 rfl (by kernel_rfl) (by kernel_rfl) (by kernel_rfl) (by kernel_rfl) (by rfl) hPan ?_ hS ?_; rotate_left; (intro w' hSw; obtain ⟨f1,f2⟩ := hF w' hSw; go_simp; try with_reducible rfl); simp only [Act.put, List.setIfInBounds_toArray, List.set_cons_zero, List.set_cons_succ])
  clear hwr
  (refine ap_val (v := ?_) 15 rfl (by kernel_rfl) (by kernel_rfl) (by kernel_rfl) (by kernel_rfl) (by rfl) hPan ?_ hS ?_; rotate_left; (intro w' hSw; obtain ⟨f1,f2⟩ := hF w' hSw; go_simp; try with_reducible rfl); simp only [Act.put, List.setIfInBounds_toArray, List.set_cons_zero, List.set_cons_succ])
  (refine ap_val (v := ?_) 16 rfl (by kernel_rfl) (by kernel_rfl) (by kernel_rfl) (by kernel_rfl) (by rfl) hPan ?_ hS ?_; rotate_left; (intro w' hSw; obtain ⟨f1,f2⟩ := hF w' hSw; go_simp; try with_reducible rfl); simp only [Act.put, List.setIfInBounds_toArray, List.set_cons_zero, List.set_cons_succ])
  (refine ap_val (v := ?_) 17 rfl (by kernel_rfl) (by kernel_rfl) (by kernel_rfl) (by kernel_rfl) (by rfl) hPan ?_ hS ?_; rotate_left; (intro w' hSw; obtain ⟨f1,f2⟩ := hF w' hSw; go_simp; try with_reducible rfl); simp only [Act.put, List.setIfInBounds_toArray, List.set_cons_zero, List.set_cons_succ])
  (refine ap_val (v := ?_) 18 rfl (by kernel_rfl) (by kernel_rfl) (by kernel_rfl) (by kernel_rfl) (by rfl) hPan ?_ hS ?_; rotate_left; (intro w' hSw; obtain ⟨f1,f2⟩ := hF w' hSw; go_simp; try with_reducible rfl); simp only [Act.put, List.setIfInBounds_toArray, List.set_cons_zero, List.set_cons_succ])
  (refine ap_val (v := ?_) 19 rfl (by kernel_rfl) (by kernel_rfl) (by kernel_rfl) (by kernel_rfl) (by rfl) hPan ?_ hS ?_; rotate_left; (intro w' hSw; obtain ⟨f1,f2⟩ := hF w' hSw; go_simp; try with_reducible rfl); simp only [Act.put, List.setIfInBounds_toArray, List.set_cons_zero, List.set_cons_succ])
  (refine ap_val (v := ?_) 20 rfl (by kernel_rfl) (by kernel_rfl) (by kernel_rfl) (by kernel_rfl) (by rfl) hPan ?_ hS ?_; rotate_left; (intro w' hSw; obtain ⟨f1,f2⟩ := hF w' hSw; go_simp; try with_reducible rfl); simp only [Act.put, List.setIfInBounds_toArray, List.set_cons_zero, List.set_cons_succ])
  (refine ap_val (v := ?_) 21 rfl (by kernel_rfl) (by kernel_rfl) (by kernel_rfl) (by kernel_rfl) (by rfl) hPan ?_ hS ?_; rotate_left; (intro w' hSw; obtain ⟨f1,f2⟩ := hF w' hSw; go_simp; try with_reducible rfl); simp only [Act.put, List.setIfInBounds_toArray, List.set_cons_zero, List.set_cons_succ])
  refine ap_one 22 (by kernel_rfl) ?_
  refine op_run (v := .int .i64 (k : Int)) (w' := w4.drew) 22 rfl (by rfl) (by go_simp) ?_
  refine ⟨fun _ => hS, ap_done (by kernel_rfl) ?_ _⟩
  (simp only [Act.put, List.setIfInBounds_toArray, List.set_cons_zero, List.set_cons_succ])
  have HS5 := Lib.hid (HS4.out.then hS)
  clear hS hPan HS4
  generalize w4.drew = w5 at *
  have z0 : (0 : Int) ≤ (k : Int) := by omega
  have z1 : (k : Int) < (R.length : Int) := by omega
  have HKR := Lib.hid hm2
  clear hm1 hr1 hr2 hr hF
  have hD5 := HD3.out.keep0 HS5.out
  obtain ⟨vs, hvl, hvr, hvi⟩ := hD5.modes
  have HVI := Lib.hid hvi
  have HVL := Lib.hid hvl
  have HVR := Lib.hid hvr
  have hv1 : ∀ u ∈ vs, u.oneCell' = true := by
    intro u hu
    obtain ⟨i, hi, rfl⟩ := List.getElem_of_mem hu
    obtain ⟨A9, c9, e9, _⟩ := hvi i (by omega)
    rw [List.getElem?_eq_getElem hi] at e9
    injection e9 with e9
    rw [e9]
    rfl
  have HV1 := Lib.hid hv1
  have HD5 := Lib.hid hD5
  clear hv1 hvi hvl hvr hD5
  have hF : ∀ w', Keep [] w5 w' → w'.cell? ⟨w2.heap.size, 0, none⟩ = some (.slice (some ⟨bm, om, none⟩) c.modes.length mc) ∧ w'.cell? ⟨w2.heap.size, 1, none⟩ = some (.slice ea c.edges.length ec) := fun w' hk => ⟨(hcF.out w' (HS5.out.then hk)).1, (HC0.out _ _ (HB3.out.keep0 (HS5.out.then hk))).2⟩
  go_wp2_with fail
  refine ap_begin 8 (Keep [] w5) rfl (Keep.refl _ _).drew (fun hS hPan => ?_) (fun _ _ d _ _ h => by cases d <;> exact h)
  (refine ap_val (v := ?_) 1 rfl (by kernel_rfl) (by kernel_rfl) (by kernel_rfl) (by kernel_rfl) (by rfl) hPan ?_ hS ?_; rotate_left; (intro w' hSw; obtain ⟨f1,f2⟩ := hF w' hSw; go_simp; try with_reducible rfl); simp only [Act.put, List.setIfInBounds_toArray, List.set_cons_zero, List.set_cons_succ])
  (refine ap_val (v := ?_) 2 rfl (by kernel_rfl) (by kernel_rfl) (by kernel_rfl) (by kernel_rfl) (by rfl) hPan ?_ hS ?_; rotate_left; (intro w' hSw; obtain ⟨f1,f2⟩ := hF w' hSw; go_simp; try with_reducible rfl); simp only [Act.put, List.setIfInBounds_toArray, List.set_cons_zero, List.set_cons_succ])
  (refine ap_val (v := ?_) 4 rfl (by kernel_rfl) (by kernel_rfl) (by kernel_rfl) (by kernel_rfl) (by rfl) hPan ?_ hS ?_; rotate_left; (intro w' hSw; obtain ⟨f1,f2⟩ := hF w' hSw; go_simp; try with_reducible rfl); simp only [Act.put, List.setIfInBounds_toArray, List.set_cons_zero, List.set_cons_succ])
  (refine ap_val (v := ?_) 5 rfl (by kernel_rfl) (by kernel_rfl) (by kernel_rfl) (by kernel_rfl) (by rfl) hPan ?_ hS ?_; rotate_left; (intro w' hSw; obtain ⟨f1,f2⟩ := hF w' hSw; go_simp; try with_reducible rfl); simp only [Act.put, List.setIfInBounds_toArray, List.set_cons_zero, List.set_cons_succ])
  clear hF
  generalize w5.drew = wd at *
  refine ap_two 0 7 (by kernel_rfl) ?_ ?_
  refine op_run (v := .slice (some ⟨wd.heap.size, 0, none⟩) 0 0) (w' := wd.alloc (.cells #[] 76)) 0 rfl (by rfl) (by go_simp) ?_
  have oE := own_emptyC wd 76 1
  have hSE : Keep [] w5 (wd.alloc (.cells #[] 76)) := hS.alloc _
  have hzE : (wd.alloc (.cells #[] 76)).heap.size = wd.heap.size + 1 := by simp
  have hzd := hS.size
  obtain ⟨gE, hgE⟩ : ∃ gE, wd.heap.size = gE := ⟨_, rfl⟩
  rw [hgE] at oE hzE hzd
  generalize wd.alloc (.cells #[] 76) = we at *
  refine ⟨fun _ => hSE, ?_⟩
  rw [hgE]
  clear hgE
  (simp only [Act.put, List.setIfInBounds_toArray, List.set_cons_zero, List.set_cons_succ])
  refine ap_two 3 7 (by kernel_rfl) ?_ ?_
  refine op_app_reads 3 (.tmp 74) (.tmp 76) 69 rfl (by rfl) rfl slice_rows oE rfl (HVR.out.keep0 hSE) rfl HV1.out (by omega) (by have := HLM.out; omega) (by have := HLM.out; unfold maxLen; omega) ?_
  intro v6 w6 o6 k6
  rw [Nat.zero_add, List.nil_append] at o6
  have hS6 : Keep [] w5 w6 := hSE.trans k6 (fun y hy hlt => by simp [Value.ownBlock] at hy; omega)
  obtain ⟨gM, tc, hv6, hBg, hgl⟩ := o6.form (by omega)
  subst hv6
  refine ⟨fun _ => hS6, ?_⟩
  replace hS := hS6
  have O6 := own_base o6 (show w5.heap.size ≤ gE by omega)
  (simp only [Act.put, List.setIfInBounds_toArray, List.set_cons_zero, List.set_cons_succ])
  (refine ap_val (v := ?_) 6 rfl (by kernel_rfl) (by kernel_rfl) (by kernel_rfl) (by kernel_rfl) (by rfl) hPan ?_ hS ?_; rotate_left; (intro w' hSw; go_simp; try with_reducible rfl); simp only [Act.put, List.setIfInBounds_toArray, List.set_cons_zero, List.set_cons_succ])
  refine ap_one 7 (by kernel_rfl) ?_
  refine op_run (v := .pointer (some ⟨w6.heap.size, 0, none⟩)) (w' := w6.alloc (.cells #[.slice none 0 0, .slice none 0 0] 72)) 7 rfl (by rfl) (by go_simp) ?_
  have D7 : Blk (w6.alloc (.cells #[.slice none 0 0, .slice none 0 0] 72)) w6.heap.size 72 #[.slice none 0 0, .slice none 0 0] := Blk.new _ _ _
  have hSC : Keep [] w5 (w6.alloc (.cells #[.slice none 0 0, .slice none 0 0] 72)) := hS6.alloc _
  have hzC : (w6.alloc (.cells #[.slice none 0 0, .slice none 0 0] 72)).heap.size = w6.heap.size + 1 := by simp
  have hzc := hS6.size
  have O7 := O6.alloc (.cells #[.slice none 0 0, .slice none 0 0] 72)
  obtain ⟨gC, hgC⟩ : ∃ gC, w6.heap.size = gC := ⟨_, rfl⟩
  rw [hgC] at D7 hzC hzc
  generalize w6.alloc (.cells #[.slice none 0 0, .slice none 0 0] 72) = wc at *
  refine ⟨fun _ => hSC, ?_⟩
  rw [hgC]
  clear hgC
  (simp only [Act.put, List.setIfInBounds_toArray, List.set_cons_zero, List.set_cons_succ])
  refine ap_one 8 (by kernel_rfl) ?_
  refine op_store_all (vs := [.slice (some ⟨gM, 0, none⟩) c.modes.length tc, .slice ea c.edges.length ec]) 8 rfl (by rfl) rfl rfl rfl agg_cert.2 D7 (by simp [Value.oneCell']) rfl ?_
  intro w8 D8 k8
  have O8 := own_keep O7 k8 (own_apart_blk O7 D7 (by decide))
  have HS8 := Lib.hid (hSC.trans k8 (fun y hy hlt => by simp at hy; omega))
  refine ⟨fun h => (by cases h), ap_done (by kernel_rfl) ?_ _⟩
  (simp only [Act.put, List.setIfInBounds_toArray, List.set_cons_zero, List.set_cons_succ])
  clear hS hPan oE hSE hzE hzd o6 k6 hS6 O6 D7 hSC hzC hzc O7 k8 hBg hgl
  rotate_left
  refine op_run (v := .pointer (some ⟨we.heap.size, 0, none⟩)) (w' := we.alloc (.cells #[.slice none 0 0, .slice none 0 0] 72)) 7 rfl (by rfl) (by go_simp) ?_
  have D7 : Blk (we.alloc (.cells #[.slice none 0 0, .slice none 0 0] 72)) we.heap.size 72 #[.slice none 0 0, .slice none 0 0] := Blk.new _ _ _
  have hSC : Keep [] w5 (we.alloc (.cells #[.slice none 0 0, .slice none 0 0] 72)) := hSE.alloc _
  have hzC : (we.alloc (.cells #[.slice none 0 0, .slice none 0 0] 72)).heap.size = we.heap.size + 1 := by simp
  have hzc := hSE.size
  have oE := oE.alloc (.cells #[.slice none 0 0, .slice none 0 0] 72)
  obtain ⟨gC, hgC⟩ : ∃ gC, we.heap.size = gC := ⟨_, rfl⟩
  rw [hgC] at D7 hzC hzc hzE
  generalize we.alloc (.cells #[.slice none 0 0, .slice none 0 0] 72) = wc at *
  refine ⟨fun _ => hSC, ?_⟩
  rw [hgC]
  clear hgC
  (simp only [Act.put, List.setIfInBounds_toArray, List.set_cons_zero, List.set_cons_succ])
  refine ap_one 3 (by kernel_rfl) ?_
  refine op_app_reads 3 (.tmp 74) (.tmp 76) 69 rfl (by rfl) rfl slice_rows oE rfl (HVR.out.keep0 hSC) rfl HV1.out (by omega) (by have := HLM.out; omega) (by have := HLM.out; unfold maxLen; omega) ?_
  intro v6 w6 o6 k6
  rw [Nat.zero_add, List.nil_append] at o6
  have hS6 : Keep [] w5 w6 := hSC.trans k6 (fun y hy hlt => by simp [Value.ownBlock] at hy; omega)
  obtain ⟨gM, tc, hv6, hBg, hgl⟩ := o6.form (by omega)
  subst hv6
  refine ⟨fun _ => hS6, ?_⟩
  replace hS := hS6
  have O6 := own_base o6 (show w5.heap.size ≤ gE by omega)
  have D6 : Blk w6 gC 72 _ := D7.keep k6 (by simp [Value.ownBlock]; omega)
  (simp only [Act.put, List.setIfInBounds_toArray, List.set_cons_zero, List.set_cons_succ])
  (refine ap_val (v := ?_) 6 rfl (by kernel_rfl) (by kernel_rfl) (by kernel_rfl) (by kernel_rfl) (by rfl) hPan ?_ hS ?_; rotate_left; (intro w' hSw; go_simp; try with_reducible rfl); simp only [Act.put, List.setIfInBounds_toArray, List.set_cons_zero, List.set_cons_succ])
  refine ap_one 8 (by kernel_rfl) ?_
  refine op_store_all (vs := [.slice (some ⟨gM, 0, none⟩) c.modes.length tc, .slice ea c.edges.length ec]) 8 rfl (by rfl) rfl rfl rfl agg_cert.2 D6 (by simp [Value.oneCell']) rfl ?_
  intro w8 D8 k8
  have O8 := own_keep O6 k8 (own_apart_blk O6 D6 (by decide))
  have HS8 := Lib.hid (hS6.trans k8 (fun y hy hlt => by simp at hy; omega))
  refine ⟨fun h => (by cases h), ap_done (by kernel_rfl) ?_ _⟩
  (simp only [Act.put, List.setIfInBounds_toArray, List.set_cons_zero, List.set_cons_succ])
  clear hS hPan oE hSE hzE hzd o6 k6 hS6 O6 D7 D6 hSC hzC hzc k8 hBg hgl
  rotate_left
  refine op_run (v := .pointer (some ⟨wd.heap.size, 0, none⟩)) (w' := wd.alloc (.cells #[.slice none 0 0, .slice none 0 0] 72)) 7 rfl (by rfl) (by go_simp) ?_
  have D7 : Blk (wd.alloc (.cells #[.slice none 0 0, .slice none 0 0] 72)) wd.heap.size 72 #[.slice none 0 0, .slice none 0 0] := Blk.new _ _ _
  have hSC : Keep [] w5 (wd.alloc (.cells #[.slice none 0 0, .slice none 0 0] 72)) := hS.alloc _
  have hzC : (wd.alloc (.cells #[.slice none 0 0, .slice none 0 0] 72)).heap.size = wd.heap.size + 1 := by simp
  have hzc := hS.size
  obtain ⟨gC, hgC⟩ : ∃ gC, wd.heap.size = gC := ⟨_, rfl⟩
  rw [hgC] at D7 hzC hzc
  generalize wd.alloc (.cells #[.slice none 0 0, .slice none 0 0] 72) = wc at *
  refine ⟨fun _ => hSC, ?_⟩
  rw [hgC]
  clear hgC
  (simp only [Act.put, List.setIfInBounds_toArray, List.set_cons_zero, List.set_cons_succ])
  refine ap_one 0 (by kernel_rfl) ?_
  refine op_run (v := .slice (some ⟨wc.heap.size, 0, none⟩) 0 0) (w' := wc.alloc (.cells #[] 76)) 0 rfl (by rfl) (by go_simp) ?_
  have oE := own_emptyC wc 76 1
  have hSE : Keep [] w5 (wc.alloc (.cells #[] 76)) := hSC.alloc _
  have hzE : (wc.alloc (.cells #[] 76)).heap.size = wc.heap.size + 1 := by simp
  have hzd := hSC.size
  have D7 := D7.alloc (.cells #[] 76)
  obtain ⟨gE, hgE⟩ : ∃ gE, wc.heap.size = gE := ⟨_, rfl⟩
  rw [hgE] at oE hzE hzd hzC
  generalize wc.alloc (.cells #[] 76) = we at *
  refine ⟨fun _ => hSE, ?_⟩
  rw [hgE]
  clear hgE
  (simp only [Act.put, List.setIfInBounds_toArray, List.set_cons_zero, List.set_cons_succ])
  refine ap_one 3 (by kernel_rfl) ?_
  refine op_app_reads 3 (.tmp 74) (.tmp 76) 69 rfl (by rfl) rfl slice_rows oE rfl (HVR.out.keep0 hSE) rfl HV1.out (by omega) (by have := HLM.out; omega) (by have := HLM.out; unfold maxLen; omega) ?_
  intro v6 w6 o6 k6
  rw [Nat.zero_add, List.nil_append] at o6
  have hS6 : Keep [] w5 w6 := hSE.trans k6 (fun y hy hlt => by simp [Value.ownBlock] at hy; omega)
  obtain ⟨gM, tc, hv6, hBg, hgl⟩ := o6.form (by omega)
  subst hv6
  refine ⟨fun _ => hS6, ?_⟩
  replace hS := hS6
  have O6 := own_base o6 (show w5.heap.size ≤ gE by omega)
  have D6 : Blk w6 gC 72 _ := D7.keep k6 (by simp [Value.ownBlock]; omega)
  (simp only [Act.put, List.setIfInBounds_toArray, List.set_cons_zero, List.set_cons_succ])
  (refine ap_val (v := ?_) 6 rfl (by kernel_rfl) (by kernel_rfl) (by kernel_rfl) (by kernel_rfl) (by rfl) hPan ?_ hS ?_; rotate_left; (intro w' hSw; go_simp; try with_reducible rfl); simp only [Act.put, List.setIfInBounds_toArray, List.set_cons_zero, List.set_cons_succ])
  refine ap_one 8 (by kernel_rfl) ?_
  refine op_store_all (vs := [.slice (some ⟨gM, 0, none⟩) c.modes.length tc, .slice ea c.edges.length ec]) 8 rfl (by rfl) rfl rfl rfl agg_cert.2 D6 (by simp [Value.oneCell']) rfl ?_
  intro w8 D8 k8
  have O8 := own_keep O6 k8 (own_apart_blk O6 D6 (by decide))
  have HS8 := Lib.hid (hS6.trans k8 (fun y hy hlt => by simp at hy; omega))
  refine ⟨fun h => (by cases h), ap_done (by kernel_rfl) ?_ _⟩
  (simp only [Act.put, List.setIfInBounds_toArray, List.set_cons_zero, List.set_cons_succ])
  clear hS hPan oE hSE hzE hzd o6 k6 hS6 O6 D7 D6 hSC hzC hzc k8 hBg hgl
  all_goals
    have hF : ∀ w', Keep [] w8 w' → w'.cell? ⟨gC, 0, none⟩ = some (.slice (some ⟨gM, 0, none⟩) c.modes.length tc) ∧ w'.cell? ⟨w2.heap.size, 0, none⟩ = some (.slice (some ⟨bm, om, none⟩) c.modes.length mc) ∧ w'.cell? ⟨bm, om + m, none⟩ = some (.slice A R.length cp) := fun w' hk =>
      ⟨by rw [(D8.keep0 hk).cell]; rfl, (hcF.out w' (HS5.out.then (HS8.out.then hk))).1, (hcF.out w' (HS5.out.then (HS8.out.then hk))).2⟩
    have hm2 := HM2.out
    go_wp2_with fail
    refine ap_begin 11 (Keep [] w8) rfl (Keep.refl _ _).drew (fun hS hPan => ?_) (fun _ _ d _ _ h => by cases d <;> exact h)
    (refine ap_val (v := ?_) 0 rfl (by kernel_rfl) (by kernel_rfl) (by kernel_rfl) (by kernel_rfl) (by rfl) hPan ?_ hS ?_; rotate_left; (intro w' hSw; obtain ⟨f1,f2,f3⟩ := hF w' hSw; go_simp; try with_reducible rfl); simp only [Act.put, List.setIfInBounds_toArray, List.set_cons_zero, List.set_cons_succ])
    (refine ap_val (v := ?_) 1 rfl (by kernel_rfl) (by kernel_rfl) (by kernel_rfl) (by kernel_rfl) (by rfl) hPan ?_ hS ?_; rotate_left; (intro w' hSw; obtain ⟨f1,f2,f3⟩ := hF w' hSw; go_simp; try with_reducible rfl); simp only [Act.put, List.setIfInBounds_toArray, List.set_cons_zero, List.set_cons_succ])
    (refine ap_val (v := ?_) 2 rfl (by kernel_rfl) (by kernel_rfl) (by kernel_rfl) (by kernel_rfl) (by rfl) hPan ?_ hS ?_; rotate_left; (intro w' hSw; obtain ⟨f1,f2,f3⟩ := hF w' hSw; go_simp; try with_reducible rfl); simp only [Act.put, List.setIfInBounds_toArray, List.set_cons_zero, List.set_cons_succ])
    (refine ap_val (v := ?_) 4 rfl (by kernel_rfl) (by kernel_rfl) (by kernel_rfl) (by kernel_rfl) (by rfl) hPan ?_ hS ?_; rotate_left; (intro w' hSw; obtain ⟨f1,f2,f3⟩ := hF w' hSw; go_simp; try with_reducible rfl); simp only [Act.put, List.setIfInBounds_toArray, List.set_cons_zero, List.set_cons_succ])
    (refine ap_val (v := ?_) 5 rfl (by kernel_rfl) (by kernel_rfl) (by kernel_rfl) (by kernel_rfl) (by rfl) hPan ?_ hS ?_; rotate_left; (intro w' hSw; obtain ⟨f1,f2,f3⟩ := hF w' hSw; go_simp; try with_reducible rfl); simp only [Act.put, List.setIfInBounds_toArray, List.set_cons_zero, List.set_cons_succ])
    (refine ap_val (v := ?_) 6 rfl (by kernel_rfl) (by kernel_rfl) (by kernel_rfl) (by kernel_rfl) (by rfl) hPan ?_ hS ?_; rotate_left; (intro w' hSw; obtain ⟨f1,f2,f3⟩ := hF w' hSw; go_simp; try with_reducible rfl); simp only [Act.put, List.setIfInBounds_toArray, List.set_cons_zero, List.set_cons_succ])
    (refine ap_val (v := ?_) 7 rfl (by kernel_rfl) (by kernel_rfl) (by kernel_rfl) (by kernel_rfl) (by rfl) hPan ?_ hS ?_; rotate_left; (intro w' hSw; obtain ⟨f1,f2,f3⟩ := hF w' hSw; go_simp; try with_reducible rfl); simp only [Act.put, List.setIfInBounds_toArray, List.set_cons_zero, List.set_cons_succ])
    (refine ap_val (v := ?_) 8 rfl (by kernel_rfl) (by kernel_rfl) (by kernel_rfl) (by kernel_rfl) (by rfl) hPan ?_ hS ?_; rotate_left; (intro w' hSw; obtain ⟨f1,f2,f3⟩ := hF w' hSw; go_simp; try with_reducible rfl); simp only [Act.put, List.setIfInBounds_toArray, List.set_cons_zero, List.set_cons_succ])
    clear hF
    generalize w8.drew = wd at *
    refine ap_one 3 (by kernel_rfl) ?_
    refine op_run (v := .slice (some ⟨wd.heap.size, 0, none⟩) 0 0) (w' := wd.alloc (.cells #[] 78)) 3 rfl (by rfl) (by go_simp) ?_
    have oE := own_emptyC wd 78 3
    have hSE : Keep [] w8 (wd.alloc (.cells #[] 78)) := hS.alloc _
    have hzE : (wd.alloc (.cells #[] 78)).heap.size = wd.heap.size + 1 := by simp
    have hzd := hS.size
    have hz58 := HS8.out.size
    obtain ⟨gF, hgF⟩ : ∃ gF, wd.heap.size = gF := ⟨_, rfl⟩
    rw [hgF] at oE hzE hzd
    generalize wd.alloc (.cells #[] 78) = we at *
    refine ⟨fun _ => hSE, ?_⟩
    rw [hgF]
    clear hgF
    (simp only [Act.put, List.setIfInBounds_toArray, List.set_cons_zero, List.set_cons_succ])
    refine ap_one 9 (by kernel_rfl) ?_
    refine op_app_reads 9 (.tmp 84) (.tmp 89) 76 rfl (by rfl) rfl slice_row oE rfl (HRd.out.keep0 (HS5.out.then (HS8.out.then hSE))) rfl (rows_one R) (by omega) (by omega) (by unfold maxLen; omega) ?_
    intro v9 w9 o9 k9
    rw [Nat.zero_add, List.nil_append] at o9
    have hS9 : Keep [] w8 w9 := hSE.trans k9 (fun y hy hlt => by simp [Value.ownBlock] at hy; omega)
    obtain ⟨gR, tr, hv9, hBg, hgl⟩ := o9.form (by omega)
    subst hv9
    refine ⟨fun _ => hS9, ?_⟩
    (simp only [Act.put, List.setIfInBounds_toArray, List.set_cons_zero, List.set_cons_succ])
    replace hS := hS9
    (refine ap_val (v := ?_) 10 rfl (by kernel_rfl) (by kernel_rfl) (by kernel_rfl) (by kernel_rfl) (by rfl) hPan ?_ hS ?_; rotate_left; (intro w' hSw; go_simp; try with_reducible rfl); simp only [Act.put, List.setIfInBounds_toArray, List.set_cons_zero, List.set_cons_succ])
    refine ap_one 11 (by kernel_rfl) ?_
    have O9 := own_keep0 O8 hS9
    have D9 := D8.keep0 hS9
    obtain ⟨A9, c9, hv9, _⟩ := HVI.out m hm2
    have hcm := (O9.cellAt m (by omega)).trans hv9
    refine op_store1 (v := .slice (some ⟨gR, 0, none⟩) R.length tr) 11 rfl (by rfl) rfl rfl rfl (by kernel_rfl) rfl rfl hcm (O9.frozenAt m) ?_
    have O10 := (O9.stored m (.slice (some ⟨gR, 0, none⟩) R.length tr)).1
    have gMC : gC ≠ gM := fun e => own_blk_ne O9 D9 (by decide) (by rw [e]; rfl)
    have D10 := D9.far (p := ⟨gM, m, none⟩) gMC (.slice (some ⟨gR, 0, none⟩) R.length tr)
    have gMB : w5.heap.size ≤ gM := (O9.lt gM rfl).1
    have o10 := own_keep o9 (keep_set w9 gM m (.slice (some ⟨gR, 0, none⟩) R.length tr)) (own_apart o9 O9 (by decide) (fun y hy => by simp at hy; subst hy; simp [Value.ownBlock]))
    have K10 : Keep [] w5 (w9.setCell ⟨gM, m, none⟩ (.slice (some ⟨gR, 0, none⟩) R.length tr)) := by
      exact (HS8.out.then hS9).trans (keep_set w9 gM m _) (fun y hy hlt => by simp at hy; omega)
    refine ⟨fun h => (by cases h), ap_done (by kernel_rfl) ?_ _⟩
    (simp only [Act.put, List.setIfInBounds_toArray, List.set_cons_zero, List.set_cons_succ])
    generalize w9.setCell ⟨gM, m, none⟩ (.slice (some ⟨gR, 0, none⟩) R.length tr) = w10 at *
    clear hS hPan oE hSE hzE k9 hS9 O9 D9 o9 hcm O8 D8 hgl HS8 hv9
    have HKI := HKR.out
    have e1 : w10.cell? ⟨gC, 0, none⟩ = some (.slice (some ⟨gM, 0, none⟩) c.modes.length tc) := by rw [D10.cell]; rfl
    have e2 : w10.cell? ⟨gM, m, none⟩ = some (.slice (some ⟨gR, 0, none⟩) R.length tr) := (O10.cellAt m (by omega)).trans (by rw [List.getElem?_set_self (by rw [HVL.out]; exact hm2)])
    have eC := flat_at R (fun r _ => rowCells_len r) k 2 HKI (by decide)
    rw [show (rowCells (R[k]'HKI))[2]? = some (.int .i64 (R[k]'HKI).resp) from rfl] at eC
    have e3 := (o10.cellAt (k * 3 + 2) (by omega)).trans eC
    have f3 := o10.frozenAt (k * 3 + 2)
    have O11 := (o10.stored (k * 3 + 2) (.int .i64 (IntKind.i64.wrap ((R[k]'HKI).resp - 1)))).1
    rw [flat_setC R (fun r _ => rowCells_len r) k 2 HKI (lessRow (R[k]'HKI)) (.int .i64 (IntKind.i64.wrap ((R[k]'HKI).resp - 1))) (by decide) rfl] at O11
    have M11 := own_keep O10 (keep_set w10 gR (k * 3 + 2) (.int .i64 (IntKind.i64.wrap ((R[k]'HKI).resp - 1)))) (own_apart O10 o10 (by decide) (fun y hy => by simp at hy; subst hy; simp [Value.ownBlock]))
    have gRC : gC ≠ gR := fun e => own_blk_ne o10 D10 (by decide) (by rw [e]; rfl)
    have D11 := D10.far (p := ⟨gR, k * 3 + 2, none⟩) gRC (.int .i64 (IntKind.i64.wrap ((R[k]'HKI).resp - 1)))
    have K11 : Keep [] w5 (w10.setCell ⟨gR, k * 3 + 2, none⟩ (.int .i64 (IntKind.i64.wrap ((R[k]'HKI).resp - 1)))) := K10.trans (keep_set w10 gR (k * 3 + 2) _) (fun y hy hlt => by simp at hy; omega)
    clear eC
    have HF := Lib.hid (forge_ne hm2 HRe.out HKI)
    have HFA := fun w' (K : Keep [] w5 w') {A2 A3 : Option Addr} {c2 c3 B B2 : Nat} (h2 : w'.ownsRow B 76 1 (.slice A2 c.modes.length c2) c.modes.length (vs.set m (.slice A3 R.length c3))) (h3 : w'.ownsRow B2 78 3 (.slice A3 R.length c3) R.length ((R.set k (lessRow R[k])).flatMap rowCells)) =>
      forge_at (HD5.out.keep0 K) HVL.out (fun i hi => by obtain ⟨A9, c9, a, b⟩ := HVI.out i hi; exact ⟨A9, c9, a, b.keep0 K⟩) hm2 HRe.out HKI h2 h3
    have hFg := HFA _ K11 M11 O11
    clear HFA O11 M11 o10 O10 D10 K10
    have hde : crtCells ⟨some ⟨gM, 0, none⟩, tc, ea, ec⟩ (forge c m k R HKI) = [.slice (some ⟨gM, 0, none⟩) c.modes.length tc, .slice ea c.edges.length ec] := by simp [crtCells, forge]
    rw [← hde] at D11
    clear hde
    generalize forge c m k R HKI = F at *
    generalize (R[k]'HKI).resp = rs at *
    obtain ⟨rz, hwr⟩ : ∃ rz, IntKind.i64.wrap (rs - 1) = rz := ⟨_, rfl⟩
    rw [hwr] at hFg D11 K11
    go_wp2_with (refine stop_store 3 (.tmp 103) (.tmp 101) rfl ?_)
    constructor
    refine wpList_store1C rfl 3 (.tmp 103) (.tmp 101) rfl (v := .int .i64 rz) rfl rfl (by kernel_rfl) rfl rfl e3 f3 ?_
    clear hwr
    generalize w10.setCell ⟨gR, k * 3 + 2, none⟩ (.int .i64 rz) = w11 at *
    clear e1 e2 e3 f3
    have KR := HK3.out.then (HS5.out.then K11)
    have h1 : holdsB c x = true := by rw [HHB.out, eqW_refl]; rfl
    have h2 : holdsB F x = false := by rw [HHB.out, HF.out.1]; rfl
    have HH1 := HHo ⟨some ⟨bm, om, none⟩, mc, ea, ec⟩ c w11 KR (HD5.out.keep0 K11)
    have HH2 := fun w' (K : Keep [] w11 w') => HHo ⟨some ⟨gM, 0, none⟩, tc, ea, ec⟩ F w' (KR.then K) (hFg.keep0 K)
    have HH3 := fun w' (K : Keep [] w11 w') => Lib.hid (same_any ⟨some ⟨bm, om, none⟩, mc, ea, ec⟩ ⟨some ⟨gM, 0, none⟩, tc, ea, ec⟩ c F w' (HD5.out.keep0 (K11.then K)) (hFg.keep0 K))
    have HH4 := fun w' (K : Keep [] w11 w') => HAl w' (KR.then K)
    rw [h1, HDL.out] at HH1
    rw [h2] at HH2
    rw [HF.out.2, HDL.out] at HH3
    have HcA := fun w' (K : Keep [] w11 w') => Lib.hid ((HB3.out.keep0 (HS5.out.then (K11.then K))).cellsAt)
    have HcI := fun w' (K : Keep [] w11 w') => Lib.hid (HCI.out w' (KR.then K))
    have HcF := fun w' (K : Keep [] w11 w') => Lib.hid ((D11.keep0 K).cellsAt)
    have HFL : Hid ((crtCells ⟨some ⟨gM, 0, none⟩, tc, ea, ec⟩ F).length = 2) := show _ = _ from rfl
    have HKE := Lib.hid (HK0.out.then KR)
    have hcA := HcA w11 (Keep.refl _ _)
    have hcI := HcI w11 (Keep.refl _ _)
    clear HHo HHB HAl HC0 h1 h2 HF hFg D11 K11 KR
    generalize crtCells ⟨some ⟨gM, 0, none⟩, tc, ea, ec⟩ F = fl at *
    go_wp2_with (first
      | (refine wpList_load_agg rfl 72 (.tmp 7) rfl rfl (cs := dl) (by rw [HDC.out]; exact agg_cert) hcA.out ?_)
      | (refine wpList_load_agg rfl 26 (.tmp 3) rfl rfl (cs := il) (by rw [HIC.out]; exact agg_image) hcI.out ?_))
    refine HH1.out.mono ?_
    rintro e w12 ⟨rfl, k12⟩
    have hcF2 := HcF w12 k12
    have hcI2 := HcI w12 k12
    go_wp2_with (first
      | (refine wpList_agg_gd rfl 72 (.tmp 12) rfl rfl (cs := fl) (by rw [HFL.out]; exact agg_cert) hcF2.out ?_)
      | (refine wpList_agg_gd rfl 26 (.tmp 3) rfl rfl (cs := il) (by rw [HIC.out]; exact agg_image) hcI2.out ?_))
    refine (HH2 w12 k12).out.mono ?_
    rintro e w13 ⟨rfl, k13⟩
    have k13 := k12.then k13
    have hcF3 := HcF w13 k13
    have hcA3 := HcA w13 k13
    clear hcF2 hcI2 hcA hcI
    go_wp2_with (first
      | (refine wpList_agg_gd rfl 72 (.tmp 7) rfl rfl (cs := dl) (by rw [HDC.out]; exact agg_cert) hcA3.out ?_)
      | (refine wpList_agg_gd rfl 72 (.tmp 12) rfl rfl (cs := fl) (by rw [HFL.out]; exact agg_cert) hcF3.out ?_))
    refine (HH3 w13 k13).out.mono ?_
    rintro e w14 ⟨rfl, k14⟩
    have k14 := k13.then k14
    go_wp2_with fail
    refine (HH4 w14 k14).out.mono ?_
    rintro e w15 ⟨rfl, k15⟩
    go_wp2
    go_ret
    exact ⟨rfl, HKE.out.then (k14.then k15)⟩
end Go.Proofs.YtggjhjbcdnffnaaDoor
