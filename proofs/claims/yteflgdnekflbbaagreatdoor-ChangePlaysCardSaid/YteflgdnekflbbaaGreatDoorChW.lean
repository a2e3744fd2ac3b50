/- ChangePlays: the law's walk. Condition: the table of math/bits lies where the program's text lays it. -/
import Derived.Test.YteflgdnekflbbaaGreatDoorChO
import Derived.Deep.DeepCutAuto
namespace Go.Proofs.YteflgdnekflbbaaGreatDoor
open Go.RowKit
attribute [local go_sem] Oper.semAt_some

theorem comeD0_now (X : ChX) (d : DcS) : (comeD0 X d).1.now = d.now := by
  unfold comeD0 comeDW overD0
  dsimp only
  split <;> rfl
theorem beginD_now (X : ChX) (d : DcS) (k : Nat) (l : Bool) : (beginD X d k l).1.now = d.now := by
  unfold beginD
  dsimp only
  split
  · exact comeD0_now X _
  · rfl
theorem overD1_now (X : ChX) (l : Bool) (d : DcS) : (overD1 X l d).1.now = d.now := by
  unfold overD1
  split
  · rfl
  · split
    · rfl
    · exact beginD_now X _ _ l
theorem comeD1_now (X : ChX) (l : Bool) (d : DcS) : (comeD1 X l d).1.now = d.now := by
  unfold comeD1 comeDW
  dsimp only
  split
  · rfl
  · exact overD1_now X l _
theorem askD_now (X : ChX) (d : DcS) (m : Int) (l : Bool) : (askD X d m l).1.now = d.now := by
  unfold askD
  split
  · rfl
  · split
    · rfl
    · split
      · rfl
      · split
        · rfl
        · exact beginD_now X _ _ l
theorem tickD_now (X : ChX) (d : DcS) (l : Bool) : (tickD X d l).1.now = d.now + 1 := by
  unfold tickD
  dsimp only
  split
  · exact overD1_now X l _
  · split
    · exact comeD1_now X l _
    · rfl
theorem EngAt.blk_keep {w w' : World} {b y t : Nat} {v : ImgV} {x : Img} {vc : CrtV} {c : Crt} {s : EnS} {bs : List Nat} {cs : Array Value} (E : EngAt w b v x vc c s bs) (hb : Blk w y t cs) (h1 : t ≠ 74) (h2 : t ≠ 117) (k : Keep (b :: bs) w w') : Blk w' y t cs := by
  refine Blk.keep hb k (fun hm => ?_)
  obtain ⟨A, q⟩ := E.tq
  have h3 : w.heap[y]? = _ := hb
  rcases List.mem_cons.1 hm with rfl | hm
  · have h4 : w.heap[y]? = _ := q.blk
    rw [h3] at h4
    simp at h4
    exact h1 h4.2
  · obtain ⟨cs2, h0, _⟩ := q.typed y hm
    have h4 : w.heap[y]? = _ := h0
    rw [h3] at h4
    simp at h4
    exact h2 h4.2
theorem RelE.bound {X : ChX} {s : EnS} {d : DcS} (h : RelE X s d) : ∀ k, s.edge = some k → k < X.x.edges.length := fun k hk => by
  have ht := h.tm
  unfold TmRel at ht
  rw [hk] at ht
  exact ht.1
theorem RelE.tm0 {X : ChX} {s : EnS} {d : DcS} (h : RelE X s d) (hp : s.ph = 0) : s.tm = [] := by
  have ht := h.tm
  unfold TmRel at ht
  cases he : s.edge with
  | none => rw [he] at ht; exact ht.2.2
  | some k =>
    rw [he] at ht
    rcases ht.2 with ⟨q, _⟩ | ⟨q, _⟩ | ⟨q, _⟩ | ⟨q, _⟩ <;> rw [q] at hp <;> cases hp
theorem rel_new {X : ChX} (h : 0 < X.x.modes.length) : RelE X newS newDc := ⟨rfl, rfl, rfl, rfl, rfl, rfl, Nat.le_refl _, h, ⟨rfl, rfl, rfl⟩⟩
section
variable {w W3 wr : World} {X : ChX} {c : Crt} {V : DcV} {v : ImgV} {vc : CrtV} {b g : Nat} {s : EnS} {d : DcS}
/-- Both are asked for another mode. -/
theorem law_ask (m : ChM X c) (h : LawM w W3 wr X c V v vc b g s d) (hR : RelE X s d) (hnow : d.now < 1000000) (md : Int) (live y t : Nat) (cs : Array Value) (hy : Blk wr y t cs) (h1 : t ≠ 74) (h2 : t ≠ 117) :
    Calls Tryz.prog 6 #[.pointer (some ⟨b, 0, none⟩), .int .i64 md, .int .u32 (live : Int)] wr fun e w' => ∃ A p, e = .returned (.tuple #[.slice A (askD X d md (decide (live ≠ 0))).2.1.length p, .int .i64 (askD X d md (decide (live ≠ 0))).2.2]) ∧
      w'.ownsRow w.heap.size 66 6 (.slice A (askD X d md (decide (live ≠ 0))).2.1.length p) (askD X d md (decide (live ≠ 0))).2.1.length (newsV (askD X d md (decide (live ≠ 0))).2.1) ∧ LawM w W3 w' X c V v vc b g (askE X s md (decide (live ≠ 0))).1 d ∧ Blk w' y t cs := by
  obtain ⟨bs, E, hb⟩ := h.e
  obtain ⟨hr, he⟩ := askE_out m.g (live := decide (live ≠ 0)) hR md
  refine (easkm_any m E (eshiftA m.g) hR.bound hR.tm0 (by have := hR.now; omega) md live).mono ?_
  rintro e w' ⟨A, p, bs', rfl, o, E', hb', k⟩
  rw [he] at o ⊢
  exact ⟨A, p, rfl, own_base o h.k.size, h.mid E hb E' hb' k, E.blk_keep hy h1 h2 k⟩
theorem law_tick (m : ChM X c) (h : LawM w W3 wr X c V v vc b g s d) (hR : RelE X s d) (hnow : d.now < 1000000) (live y t : Nat) (cs : Array Value) (hy : Blk wr y t cs) (h1 : t ≠ 74) (h2 : t ≠ 117) :
    Calls Tryz.prog 11 #[.pointer (some ⟨b, 0, none⟩), .int .u32 (live : Int)] wr fun e w' => ∃ A p, e = .returned (.slice A (tickD X d (decide (live ≠ 0))).2.length p) ∧
      w'.ownsRow w.heap.size 66 6 (.slice A (tickD X d (decide (live ≠ 0))).2.length p) (tickD X d (decide (live ≠ 0))).2.length (newsV (tickD X d (decide (live ≠ 0))).2) ∧ LawM w W3 w' X c V v vc b g (tickE X s (decide (live ≠ 0))).1 d ∧ Blk w' y t cs := by
  obtain ⟨bs, E, hb⟩ := h.e
  obtain ⟨hr, he⟩ := tickE_out m.g (live := decide (live ≠ 0)) hR
  refine (etick_any m E hR (by have := hR.now; omega) live).mono ?_
  rintro e w' ⟨A, p, bs', rfl, o, E', hb', k⟩
  rw [he] at o ⊢
  exact ⟨A, p, rfl, own_base o h.k.size, h.mid E hb E' hb' k, E.blk_keep hy h1 h2 k⟩
theorem law_same (m : ChM X c) (h : LawM w W3 wr X c V v vc b g s d) (hR : RelE X s d) (hnow : d.now < 1000000) : Calls Tryz.prog 9 #[.pointer (some ⟨b, 0, none⟩), .agg (dcL V X d).toArray] wr fun e w' => e = .returned (.bool true) ∧ Keep [] wr w' := by
  obtain ⟨bs, E, hb⟩ := h.e
  exact same30_any m.g E h.x hR (by omega)
end
theorem askD_len (X : ChX) (d : DcS) (m : Int) (l : Bool) : (askD X d m l).2.1.length ≤ 1000 := by
  have h0 : ∀ d, (comeD0 X d).2.length ≤ 2 := fun d => by
    unfold comeD0 comeDW overD0
    dsimp only
    split <;> simp
  have h1 : ∀ d k, (beginD X d k l).2.length ≤ 3 := fun d k => by
    unfold beginD
    dsimp only
    split
    · rw [List.length_cons]; have := h0 { d with edge := some k, since := d.now, ph := ePr X.x k, due := d.now + X.la k }; omega
    · simp
  unfold askD
  split
  · simp
  · split
    · simp
    · split
      · simp
      · split
        · simp
        · exact Nat.le_trans (h1 _ _) (by decide)
theorem tickD_len (X : ChX) (d : DcS) (l : Bool) : (tickD X d l).2.length ≤ 1000 := by
  have h0 : ∀ d, (comeD0 X d).2.length ≤ 2 := fun d => by
    unfold comeD0 comeDW overD0
    dsimp only
    split <;> simp
  have h1 : ∀ d k, (beginD X d k l).2.length ≤ 3 := fun d k => by
    unfold beginD
    dsimp only
    split
    · rw [List.length_cons]; have := h0 { d with edge := some k, since := d.now, ph := ePr X.x k, due := d.now + X.la k }; omega
    · simp
  have h2 : ∀ d, (overD1 X l d).2.length ≤ 4 := fun d => by
    unfold overD1
    split
    · simp [overD0]
    · split
      · simp [overD0]
      · rename_i i _
        rw [List.length_append]
        have := h1 { (overD0 d).1 with held := none } i
        have h3 : (overD0 d).2.length = 1 := rfl
        omega
  have h3 : ∀ d, (comeD1 X l d).2.length ≤ 5 := fun d => by
    unfold comeD1 comeDW
    dsimp only
    split
    · simp
    · rw [List.length_cons]
      have := h2 { d with mode := eTo X.x (d.edge.getD 0), ph := 4, due := d.now + X.st (d.edge.getD 0) }
      omega
  unfold tickD
  dsimp only
  split
  · exact Nat.le_trans (h2 _) (by decide)
  · split
    · exact Nat.le_trans (h3 _) (by decide)
    · simp
set_option maxRecDepth 100000 in
set_option maxHeartbeats 8000000 in
theorem changePlays_any (v : ImgV) (x : Img) (A0 : Option Addr) (c0 : Nat) (ms : List Op30) (w : World) (hTb : Tab w) (hI : ImgAt w v x) (hm : Ops30At w A0 ms) :
    Calls Tryz.prog 3 #[.agg (imgCells v x).toArray, .slice A0 ms.length c0] w fun e w' => e = .returned (.bool true) ∧ Keep [] w w' := by
  have hml := hm.len
  unfold maxLen at hml
  obtain ⟨W1, hW1⟩ : ∃ W1, w.alloc (.cells (imgCells v x).toArray 26) = W1 := ⟨_, rfl⟩
  have b0 : Blk W1 w.heap.size 26 (imgCells v x).toArray := by rw [← hW1]; exact img_box w v x
  have K1 : Keep [] w W1 := by rw [← hW1]; exact (Keep.refl _ w).alloc _
  have HAL := fun w' (k : Keep [] w w') => Lib.hid (alive30_any w' (hTb.keep0 k))
  have HCI := Lib.hid b0.cellsAt
  have HW := Lib.hid hW1
  have HK1 := Lib.hid K1
  have HIL : Hid ((imgCells v x).length = 4) := show _ = _ from rfl
  have HMW := Lib.hid hm
  by_cases hadm : greatImg x = true ∨ (admM x).2.2 ≠ 0
  · have HEN := Lib.hid (engine30_no (hTb.keep0 K1) (hI.keep0 K1) hadm)
    clear hW1 b0 K1 hTb hI hm hadm
    generalize imgCells v x = il at *
    go_enter Tryz.func3, Tryz.ntmps3
    go_wp2_with (first
      | rw [HW.out]
      | (refine wpList_load_agg rfl 26 (.tmp 2) rfl rfl (cs := il) (by rw [HIL.out]; exact agg_image) HCI.out ?_)
      | (go_at_call 4; refine HEN.out.mono ?_; rintro _ w2 ⟨rfl, k2⟩)
      | (refine stop_store 31 (.tmp 6) (.tmp 19) rfl ?_))
    constructor
    refine wpList_store_all rfl 31 (.tmp 6) (.tmp 19) rfl rfl rfl (vs := zE30) agg_E30.2 (Blk.new _ _ _) zE30_one rfl ?_
    intro w3 d3 k3
    have K3 : Keep [] w w3 := (HK1.out.then k2).trans (((Keep.refl [] w2).alloc _).trans k3 (fun y hy hlt => by simp at hy; omega)) (fun y hy _ => hy)
    have HA3 := HAL w3 K3
    clear k2 k3 d3
    go_wp2_with (go_at_call 5; refine HA3.out.mono ?_; rintro _ w4 ⟨rfl, k4⟩)
    go_ret
    exact ⟨rfl, K3.then k4⟩
  · have hg : greatImg x = false := by cases hgg : greatImg x with | true => exact absurd (.inl hgg) hadm | false => rfl
    have ha : (admM x).2.2 = 0 := by by_cases h : (admM x).2.2 = 0; exact h; exact absurd (.inr h) hadm
    have HEN := Lib.hid (engine30_yes (hTb.keep0 K1) (hI.keep0 K1) hg ha)
    obtain ⟨hadmE, m⟩ := chM_of hI.ok ha
    have hmod := (right_of (adm_ok ha).1).nm.1
    have HIMG := Lib.hid (fun w' (k : Keep [] w w') => hI.keep0 k)
    have hlat : (chX x).lat.length = (chX x).x.edges.length := by unfold chX; simp
    have hstl : (chX x).stl.length = (chX x).x.edges.length := by unfold chX; simp
    have HLT := Lib.hid hlat
    have HST := Lib.hid hstl
    have HR0 := Lib.hid (rel_new (X := chX x) hmod)
    have HMM := Lib.hid m
    clear hW1 b0 K1 hTb hI hm hadm hadmE hg ha hmod hlat hstl m
    generalize fullCrt x = c at *
    generalize hX : chX x = X at *
    have hXx : X.x = x := by rw [← hX]; rfl
    subst hXx
    clear hX
    generalize imgCells v X.x = il at *
    by_cases h40 : 40 < ms.length
    · have q40 : (40 : Int) < (ms.length : Int) := by omega
      have q41 : decide ((40 : Int) < (ms.length : Int)) = true := decide_eq_true q40
      go_enter Tryz.func3, Tryz.ntmps3
      go_wp2_with (first
        | rw [HW.out]
        | (refine wpList_load_agg rfl 26 (.tmp 2) rfl rfl (cs := il) (by rw [HIL.out]; exact agg_image) HCI.out ?_)
        | (go_at_call 4; refine HEN.out.mono ?_; rintro _ w2 ⟨b, v2, vc, V, rfl, hbz, E2, hVv, hla, hsa, k2⟩)
        | (refine stop_store 31 (.tmp 6) (.tmp 19) rfl ?_))
      constructor
      refine wpList_store_all rfl 31 (.tmp 6) (.tmp 19) rfl rfl rfl (vs := dcL V X newDc) agg_E30.2 (Blk.new _ _ _) (dcL_one _ _ _) rfl ?_
      intro w3 d3 k3
      have K3 : Keep [] w w3 := (HK1.out.then k2).trans (((Keep.refl [] w2).alloc _).trans k3 (fun y hy hlt => by simp at hy; omega)) (fun y hy _ => hy)
      clear k2 k3 d3 E2 hla hsa HMW h40
      generalize ms.length = nm at *
      go_wp2
      go_ret
      exact ⟨rfl, K3⟩
    have q40 : ¬ (40 : Int) < (ms.length : Int) := by omega
    have q41 : decide ((40 : Int) < (ms.length : Int)) = false := decide_eq_false q40
    go_enter Tryz.func3, Tryz.ntmps3
    go_wp2_with (first
      | rw [HW.out]
      | (refine wpList_load_agg rfl 26 (.tmp 2) rfl rfl (cs := il) (by rw [HIL.out]; exact agg_image) HCI.out ?_)
      | (go_at_call 4; refine HEN.out.mono ?_; rintro _ w2 ⟨b, v2, vc, V, rfl, hbz, E2, hVv, hla, hsa, k2⟩)
      | (refine stop_store 31 (.tmp 6) (.tmp 19) rfl ?_))
    constructor
    refine wpList_store_all rfl 31 (.tmp 6) (.tmp 19) rfl rfl rfl (vs := dcL V X newDc) agg_E30.2 (Blk.new _ _ _) (dcL_one _ _ _) rfl ?_
    intro w3 d3 k3
    have K23 : Keep [] w2 w3 := ((Keep.refl [] w2).alloc _).trans k3 (fun y hy hlt => by simp at hy; omega)
    have hwz : w.heap.size ≤ w2.heap.size := (HK1.out.then k2).size
    have HL0 : Hid (LawM w w2 w3 X c V v2 vc b w2.heap.size newS newDc) := ⟨E2, ⟨[], E2.keep0 K23, fun y hy => by cases hy⟩, Nat.le_trans HK1.out.size hbz, hwz, Nat.le_refl _, fun w4 k4 => by rw [hVv]; exact HIMG.out w4 k4, own_keep0 (own_base hla HK1.out.size) K23, own_keep0 (own_base hsa HK1.out.size) K23, HLT.out, HST.out, d3, (HK1.out.then k2).then K23, K23.mono (by simp)⟩
    clear E2 hVv hla hsa k2 k3 d3 K23 hbz hwz HIMG HEN HCI HW HIL
    generalize hgb : w2.heap.size = g at *
    clear hgb
    go_upto_region 7 with fail
    clear q41
    go_loopw [7, 8, 9, 10, 11, 12, 13, 14] (fun v7 v8 v9 v10 v11 v12 v13 v14 wr => ∃ (i : Nat) (s : EnS) (d : DcS), i ≤ ms.length ∧ v7 = .int .i64 (i : Int) ∧ LawM w w2 wr X c V v2 vc b g s d ∧ RelE X s d ∧ d.now ≤ 200 * i) (fun v7 _ _ _ _ _ _ _ _ => ms.length - (intOf v7).toNat)
    case atStart => exact ⟨0, newS, newDc, Nat.zero_le _, rfl, HL0.out, HR0.out, Nat.le_refl _⟩
    case round =>
      obtain ⟨i, s, d, hi, rfl, hL, hR, hnow⟩ := hrel
      clear HL0 HR0
      by_cases hlt : i < ms.length
      · obtain ⟨ba, oa, hA0, hba, hca⟩ := Reads.elem (cells := op30Cells) (size := 4) (l := ms) (HMW.out.rows.keep0 hL.k) rfl (fun a _ => rfl) i hlt
        have p0 : (0 : Int) ≤ (i : Int) := by omega
        have p1 : (i : Int) < (ms.length : Int) := by omega
        generalize ms[i] = o at *
        obtain ⟨ask, md, tk, live⟩ := o
        have HCO : Hid (CellsAt wr ba (oa + i * 4) (opCells ask md tk live)) := hca
        have hone : ∀ u ∈ opCells ask md tk live, u.oneCell' = true := fun u hu => by
          simp only [opCells, List.mem_cons, List.not_mem_nil, or_false] at hu
          rcases hu with rfl | rfl | rfl | rfl <;> rfl
        rw [hA0]
        go_wp2_with (first
          | (refine wpList_load_agg rfl 38 (.tmp 34) rfl rfl (cs := opCells ask md tk live) agg_op30 HCO.out ?_)
          | (refine stop_store 38 (.tmp 8) (.tmp 35) rfl ?_))
        constructor
        refine wpList_store_all rfl 38 (.tmp 8) (.tmp 35) rfl rfl rfl (vs := opCells ask md tk live) agg_op30.2 (Blk.new _ _ _) hone rfl ?_
        intro w4 d4 k4
        have K4 : Keep [] wr w4 := ((Keep.refl [] wr).alloc _).trans k4 (fun y hy hlt => by simp at hy; omega)
        have hL4 := hL.keep0 K4
        have HL4 := Lib.hid hL4
        have HR4 := Lib.hid hR
        have HD4 := Lib.hid d4
        have HA0 := Lib.hid hA0
        clear k4 K4 hca hL hL4 hR d4 hone hA0
        generalize wr.heap.size = go at *
        have o0 : w4.cell? ⟨go, 0, none⟩ = some (.bool ask) := by rw [HD4.out.cell]; rfl
        by_cases hlv : live = 0
        · subst hlv
          cases ask with
          | true =>
            obtain ⟨r, hr⟩ : ∃ r, askD X d md false = r := ⟨_, rfl⟩
            have hask := law_ask HMM.out HL4.out HR4.out (by omega) md 0 go _ _ HD4.out (by decide) (by decide)
            rw [show decide ((0 : Nat) ≠ 0) = false from rfl] at hask
            obtain ⟨s', hs'⟩ : ∃ s', (askE X s md false).1 = s' := ⟨_, rfl⟩
            rw [hr, hs'] at hask
            have hR' : RelE X s' r.1 := by
              have := (askE_out HMM.out.g (live := false) HR4.out md).1
              rw [hr, hs'] at this
              exact this
            have hnow' : r.1.now ≤ 200 * (i + 1) := by
              have := askD_now X d md false
              rw [hr] at this
              omega
            have hlen : r.2.1.length ≤ 1000 := by
              have := askD_len X d md false
              rw [hr] at this
              exact this
            have HRN : Hid (askD X d md false = r) := hr
            have HASK := Lib.hid hask
            have HR5 := Lib.hid hR'
            have HN5 := Lib.hid hnow'
            have o1 : w4.cell? ⟨go, 1, none⟩ = some (.int .i64 md) := by rw [HD4.out.cell]; rfl
            have o3 : w4.cell? ⟨go, 3, none⟩ = some (.int .u32 0) := by rw [HD4.out.cell]; rfl
            clear hr hask hs' hR' hnow'
            go_upto_region 14 with (go_at_call 6; refine HASK.out.mono ?_; rintro _ w5 ⟨A5, p5, rfl, o5, hL5, hd5⟩)
            have HL5 := Lib.hid hL5
            have HO5 := Lib.hid o5
            have HCA5 := Lib.hid hL5.dd.cellsAt
            have hdk := dask30_any HMM.out.g hL5.x HR4.out (by omega) md false
            rw [HRN.out] at hdk
            have HDK := Lib.hid hdk
            have e1 : w5.cell? ⟨go, 1, none⟩ = some (.int .i64 md) := by rw [hd5.cell]; rfl
            have e3 : w5.cell? ⟨go, 3, none⟩ = some (.int .u32 0) := by rw [hd5.cell]; rfl
            clear hL5 o5 hdk o0 o1 o3 hd5 HD4 HASK
            go_wp2_with (first
              | (refine wpList_load_agg rfl 31 (.tmp 6) rfl rfl (cs := dcL V X d) agg_E30 HCA5.out ?_)
              | (go_at_call 7; refine HDK.out.mono ?_; rintro _ w6 ⟨A6, p6, rfl, o6, k6⟩)
              | (refine stop_store 31 (.tmp 6) (.tmp 55) rfl ?_))
            constructor
            have hL6 := HL5.out.keep0 k6
            refine wpList_store_all rfl 31 (.tmp 6) (.tmp 55) rfl rfl rfl (vs := dcL V X r.1) agg_E30.2 hL6.dd (dcL_one _ _ _) rfl ?_
            intro w7 d7 k7
            have hL7 := hL6.done d7 k7
            have q5 := own_keep (own_keep0 HO5.out k6) k7 (fun y hy hm => by simp at hm; subst hm; exact unown_ne (own_keep0 HO5.out k6) hL6.dd (by decide) hy)
            have q6 := own_keep o6 k7 (fun y hy hm => by simp at hm; subst hm; exact unown_ne o6 hL6.dd (by decide) hy)
            have HNW := Lib.hid (news30_any A5 A6 p5 p6 r.2.1 w7 (Reads.of_own q5) (Reads.of_own q6) hlen)
            have HL7 := Lib.hid hL7
            have HSM := Lib.hid (fun w8 (k : Keep [] w7 w8) => law_same HMM.out (hL7.keep0 k) HR5.out (by have := HN5.out; omega))
            have HC7 := Lib.hid (fun w8 (k : Keep [] w7 w8) => (hL7.keep0 k).dd.cellsAt)
            clear hL6 d7 k7 hL7 q5 q6 o6 k6 HL5 HO5 HDK HCA5 e1 e3
            generalize r.2.2 = er at *
            go_wp2_with fail
            refine HNW.out.mono ?_
            rintro _ w8 ⟨rfl, k8⟩
            have hc8 := HC7.out _ k8
            go_wp2_with (refine wpList_agg_gd rfl 31 (.tmp 6) rfl rfl (cs := dcL V X r.1) agg_E30 hc8 ?_)
            refine (HSM.out _ k8).mono ?_
            rintro _ w9 ⟨rfl, k9⟩
            have HF := Lib.hid (HL7.out.keep0 (k8.then k9))
            clear k8 k9 hc8
            go_wp2_with fail
            refine ⟨⟨i + 1, s', r.1, hlt, by go_num, HF.out, HR5.out, HN5.out⟩, ?_⟩
            simp [intOf] <;> omega
          | false =>
            obtain ⟨T, hT⟩ : ∃ T, tkN tk = T := ⟨_, rfl⟩
            have hT2 := (tkN_is tk).2.1
            rw [hT] at hT2
            have HTK := Lib.hid (fun W => ticks30_any false md tk 0 W)
            simp only [hT] at HTK
            clear hT HCO
            generalize hop : opCells false md tk 0 = oc at *
            have HOC : Hid (oc.length = 4) := by show _ = _; rw [← hop]; rfl
            have HO3 : Hid (oc[3]? = some (.int .u32 0)) := by show _ = _; rw [← hop]; rfl
            clear hop
            go_upto_region 18 with fail
            clear o0
            generalize wr = wo at *
            go_loopw [9, 13, 14] (fun v9 v13 v14 wr => ∃ (n : Nat) (s1 : EnS) (d1 : DcS), n ≤ T ∧ v13 = .int .i64 (n : Int) ∧ LawM w w2 wr X c V v2 vc b g s1 d1 ∧ RelE X s1 d1 ∧ d1.now ≤ 200 * i + n ∧ Blk wr go 38 oc.toArray) (fun _ v13 _ _ => T - (intOf v13).toNat)
            case atStart => exact ⟨0, s, d, Nat.zero_le _, rfl, HL4.out, HR4.out, hnow, HD4.out⟩
            case round =>
              obtain ⟨n, s1, d1, hn, rfl, hL, hR, hnw, hD⟩ := hrel
              have HL := Lib.hid hL
              have HR := Lib.hid hR
              have HD := Lib.hid hD
              have HCD := Lib.hid hD.cellsAt
              clear hL hR hD HL4 HR4 HD4
              by_cases hnt : n < T
              · have qnt : (n : Int) < (T : Int) := by omega
                go_upto_region 20 with (first
                  | (refine wpList_load_agg rfl 38 (.tmp 8) rfl rfl (cs := oc) (by rw [HOC.out]; exact agg_op30) HCD.out ?_)
                  | (go_at_call 10; refine (HTK.out _).mono ?_; rintro _ w3t ⟨rfl, k3t⟩))
                have hL3 := HL.out.keep0 k3t
                have hD3 := HD.out.keep0 k3t
                obtain ⟨r, hr⟩ : ∃ r, tickD X d1 false = r := ⟨_, rfl⟩
                have htk := law_tick HMM.out hL3 HR.out (by omega) 0 go _ _ hD3 (by decide) (by decide)
                rw [show decide ((0 : Nat) ≠ 0) = false from rfl] at htk
                obtain ⟨s', hs'⟩ : ∃ s', (tickE X s1 false).1 = s' := ⟨_, rfl⟩
                rw [hr, hs'] at htk
                have hR' : RelE X s' r.1 := by
                  have := (tickE_out HMM.out.g (live := false) HR.out).1
                  rw [hr, hs'] at this
                  exact this
                have hnow' : r.1.now ≤ 200 * i + (n + 1) := by
                  have := tickD_now X d1 false
                  rw [hr] at this
                  omega
                have hlen : r.2.length ≤ 1000 := by
                  have := tickD_len X d1 false
                  rw [hr] at this
                  exact this
                have HRN : Hid (tickD X d1 false = r) := hr
                have HASK := Lib.hid htk
                have HR5 := Lib.hid hR'
                have HN5 := Lib.hid hnow'
                have o3 : w3t.cell? ⟨go, 3, none⟩ = some (.int .u32 0) := hD3.at_ HO3.out
                clear hr htk hs' hR' hnow' hL3 hD3 k3t HL HD HCD
                go_upto_region 21 with (go_at_call 11; refine HASK.out.mono ?_; rintro _ w5 ⟨A5, p5, rfl, o5, hL5, hd5⟩)
                have HL5 := Lib.hid hL5
                have HO5 := Lib.hid o5
                have HD5 := Lib.hid hd5
                have HCA5 := Lib.hid hL5.dd.cellsAt
                have hdk := dtick30_any HMM.out.g hL5.x HR.out (by omega) false
                rw [HRN.out] at hdk
                have HDK := Lib.hid hdk
                have e3 : w5.cell? ⟨go, 3, none⟩ = some (.int .u32 0) := hd5.at_ HO3.out
                clear hL5 o5 hdk o3 hd5 HASK
                go_wp2_with (first
                  | (refine wpList_load_agg rfl 31 (.tmp 6) rfl rfl (cs := dcL V X d1) agg_E30 HCA5.out ?_)
                  | (go_at_call 12; refine HDK.out.mono ?_; rintro _ w6 ⟨A6, p6, rfl, o6, k6⟩)
                  | (refine stop_store 31 (.tmp 6) (.tmp 89) rfl ?_))
                constructor
                have hL6 := HL5.out.keep0 k6
                refine wpList_store_all rfl 31 (.tmp 6) (.tmp 89) rfl rfl rfl (vs := dcL V X r.1) agg_E30.2 hL6.dd (dcL_one _ _ _) rfl ?_
                intro w7 d7 k7
                have hL7 := hL6.done d7 k7
                have hD7 := Blk.keep (HD5.out.keep0 k6) k7 (fun hm => by
                  simp at hm
                  have h1 : w6.heap[go]? = _ := HD5.out.keep0 k6
                  rw [hm] at h1
                  have h2 : w6.heap[g]? = _ := hL6.dd
                  rw [h2] at h1
                  simp at h1)
                have q5 := own_keep (own_keep0 HO5.out k6) k7 (fun y hy hm => by simp at hm; subst hm; exact unown_ne (own_keep0 HO5.out k6) hL6.dd (by decide) hy)
                have q6 := own_keep o6 k7 (fun y hy hm => by simp at hm; subst hm; exact unown_ne o6 hL6.dd (by decide) hy)
                have HNW := Lib.hid (news30_any A5 A6 p5 p6 r.2 w7 (Reads.of_own q5) (Reads.of_own q6) hlen)
                have HL7 := Lib.hid hL7
                have HD7 := Lib.hid hD7
                have HSM := Lib.hid (fun w8 (k : Keep [] w7 w8) => law_same HMM.out (hL7.keep0 k) HR5.out (by have := HN5.out; omega))
                have HC7 := Lib.hid (fun w8 (k : Keep [] w7 w8) => (hL7.keep0 k).dd.cellsAt)
                clear hL6 d7 k7 hL7 q5 q6 o6 k6 HL5 HO5 HDK HCA5 e3 hD7 HD5
                go_upto_region 22 with fail
                go_wp2_with fail
                refine HNW.out.mono ?_
                rintro _ w8 ⟨rfl, k8⟩
                have hc8 := HC7.out _ k8
                go_wp2_with (refine wpList_agg_gd rfl 31 (.tmp 6) rfl rfl (cs := dcL V X r.1) agg_E30 hc8 ?_)
                refine (HSM.out _ k8).mono ?_
                rintro _ w9 ⟨rfl, k9⟩
                have HF := Lib.hid (HL7.out.keep0 (k8.then k9))
                have HFD := Lib.hid (HD7.out.keep0 (k8.then k9))
                clear k8 k9 hc8
                go_wp2_with fail
                go_roundw
                case rel => exact ⟨n + 1, s', r.1, hnt, by go_num, HF.out, HR5.out, HN5.out, HFD.out⟩
                case measure => simp [intOf] <;> omega
              · obtain rfl : n = T := by omega
                have qnt : ¬ (n : Int) < (n : Int) := by omega
                have qnd : decide ((n : Int) < (n : Int)) = false := by simp
                go_wp2_with (first
                  | (refine wpList_load_agg rfl 38 (.tmp 8) rfl rfl (cs := oc) (by rw [HOC.out]; exact agg_op30) HCD.out ?_)
                  | (go_at_call 10; refine (HTK.out _).mono ?_; rintro _ w3t ⟨rfl, k3t⟩))
                have HF := Lib.hid (HL.out.keep0 k3t)
                have HN : Hid (d1.now ≤ 200 * (i + 1)) := by show _ ≤ _; omega
                clear k3t HL HD HCD
                refine ⟨⟨i + 1, s1, d1, hlt, by go_num, HF.out, HR.out, HN.out⟩, ?_⟩
                simp [intOf] <;> omega
        · have hlb : decide (live ≠ 0) = true := decide_eq_true hlv
          have HLBB := Lib.hid hlb
          have ql : ((live : Int) = 0) = False := eq_false (by omega)
          have qn : (live = 0) = False := eq_false hlv
          have qb : ((live : Int) == 0) = false := beq_eq_false_iff_ne.2 (by omega)
          have qc : ((live : Int) != 0) = true := by simp; omega
          clear hlb hlv
          cases ask with
          | true =>
            obtain ⟨r, hr⟩ : ∃ r, askD X d md true = r := ⟨_, rfl⟩
            have hask := law_ask HMM.out HL4.out HR4.out (by omega) md live go _ _ HD4.out (by decide) (by decide)
            rw [HLBB.out] at hask
            obtain ⟨s', hs'⟩ : ∃ s', (askE X s md true).1 = s' := ⟨_, rfl⟩
            rw [hr, hs'] at hask
            have hR' : RelE X s' r.1 := by
              have := (askE_out HMM.out.g (live := true) HR4.out md).1
              rw [hr, hs'] at this
              exact this
            have hnow' : r.1.now ≤ 200 * (i + 1) := by
              have := askD_now X d md true
              rw [hr] at this
              omega
            have hlen : r.2.1.length ≤ 1000 := by
              have := askD_len X d md true
              rw [hr] at this
              exact this
            have HRN : Hid (askD X d md true = r) := hr
            have HASK := Lib.hid hask
            have HR5 := Lib.hid hR'
            have HN5 := Lib.hid hnow'
            have o1 : w4.cell? ⟨go, 1, none⟩ = some (.int .i64 md) := by rw [HD4.out.cell]; rfl
            have o3 : w4.cell? ⟨go, 3, none⟩ = some (.int .u32 (live : Int)) := by rw [HD4.out.cell]; rfl
            clear hr hask hs' hR' hnow'
            go_upto_region 14 with (go_at_call 6; refine HASK.out.mono ?_; rintro _ w5 ⟨A5, p5, rfl, o5, hL5, hd5⟩)
            have HL5 := Lib.hid hL5
            have HO5 := Lib.hid o5
            have HCA5 := Lib.hid hL5.dd.cellsAt
            have hdk := dask30_any HMM.out.g hL5.x HR4.out (by omega) md true
            rw [HRN.out] at hdk
            have HDK := Lib.hid hdk
            have e1 : w5.cell? ⟨go, 1, none⟩ = some (.int .i64 md) := by rw [hd5.cell]; rfl
            have e3 : w5.cell? ⟨go, 3, none⟩ = some (.int .u32 (live : Int)) := by rw [hd5.cell]; rfl
            clear hL5 o5 hdk o0 o1 o3 hd5 HD4 HASK
            go_wp2_with (first
              | (refine wpList_load_agg rfl 31 (.tmp 6) rfl rfl (cs := dcL V X d) agg_E30 HCA5.out ?_)
              | (go_at_call 7; refine HDK.out.mono ?_; rintro _ w6 ⟨A6, p6, rfl, o6, k6⟩)
              | (refine stop_store 31 (.tmp 6) (.tmp 55) rfl ?_))
            constructor
            have hL6 := HL5.out.keep0 k6
            refine wpList_store_all rfl 31 (.tmp 6) (.tmp 55) rfl rfl rfl (vs := dcL V X r.1) agg_E30.2 hL6.dd (dcL_one _ _ _) rfl ?_
            intro w7 d7 k7
            have hL7 := hL6.done d7 k7
            have q5 := own_keep (own_keep0 HO5.out k6) k7 (fun y hy hm => by simp at hm; subst hm; exact unown_ne (own_keep0 HO5.out k6) hL6.dd (by decide) hy)
            have q6 := own_keep o6 k7 (fun y hy hm => by simp at hm; subst hm; exact unown_ne o6 hL6.dd (by decide) hy)
            have HNW := Lib.hid (news30_any A5 A6 p5 p6 r.2.1 w7 (Reads.of_own q5) (Reads.of_own q6) hlen)
            have HL7 := Lib.hid hL7
            have HSM := Lib.hid (fun w8 (k : Keep [] w7 w8) => law_same HMM.out (hL7.keep0 k) HR5.out (by have := HN5.out; omega))
            have HC7 := Lib.hid (fun w8 (k : Keep [] w7 w8) => (hL7.keep0 k).dd.cellsAt)
            clear hL6 d7 k7 hL7 q5 q6 o6 k6 HL5 HO5 HDK HCA5 e1 e3
            generalize r.2.2 = er at *
            go_wp2_with fail
            refine HNW.out.mono ?_
            rintro _ w8 ⟨rfl, k8⟩
            have hc8 := HC7.out _ k8
            go_wp2_with (refine wpList_agg_gd rfl 31 (.tmp 6) rfl rfl (cs := dcL V X r.1) agg_E30 hc8 ?_)
            refine (HSM.out _ k8).mono ?_
            rintro _ w9 ⟨rfl, k9⟩
            have HF := Lib.hid (HL7.out.keep0 (k8.then k9))
            clear k8 k9 hc8
            go_wp2_with fail
            refine ⟨⟨i + 1, s', r.1, hlt, by go_num, HF.out, HR5.out, HN5.out⟩, ?_⟩
            simp [intOf] <;> omega
          | false =>
            obtain ⟨T, hT⟩ : ∃ T, tkN tk = T := ⟨_, rfl⟩
            have hT2 := (tkN_is tk).2.1
            rw [hT] at hT2
            have HTK := Lib.hid (fun W => ticks30_any false md tk live W)
            simp only [hT] at HTK
            clear hT HCO
            generalize hop : opCells false md tk live = oc at *
            have HOC : Hid (oc.length = 4) := by show _ = _; rw [← hop]; rfl
            have HO3 : Hid (oc[3]? = some (.int .u32 (live : Int))) := by show _ = _; rw [← hop]; rfl
            clear hop
            go_upto_region 18 with fail
            clear o0
            generalize wr = wo at *
            go_loopw [9, 13, 14] (fun v9 v13 v14 wr => ∃ (n : Nat) (s1 : EnS) (d1 : DcS), n ≤ T ∧ v13 = .int .i64 (n : Int) ∧ LawM w w2 wr X c V v2 vc b g s1 d1 ∧ RelE X s1 d1 ∧ d1.now ≤ 200 * i + n ∧ Blk wr go 38 oc.toArray) (fun _ v13 _ _ => T - (intOf v13).toNat)
            case atStart => exact ⟨0, s, d, Nat.zero_le _, rfl, HL4.out, HR4.out, hnow, HD4.out⟩
            case round =>
              obtain ⟨n, s1, d1, hn, rfl, hL, hR, hnw, hD⟩ := hrel
              have HL := Lib.hid hL
              have HR := Lib.hid hR
              have HD := Lib.hid hD
              have HCD := Lib.hid hD.cellsAt
              clear hL hR hD HL4 HR4 HD4
              by_cases hnt : n < T
              · have qnt : (n : Int) < (T : Int) := by omega
                go_upto_region 20 with (first
                  | (refine wpList_load_agg rfl 38 (.tmp 8) rfl rfl (cs := oc) (by rw [HOC.out]; exact agg_op30) HCD.out ?_)
                  | (go_at_call 10; refine (HTK.out _).mono ?_; rintro _ w3t ⟨rfl, k3t⟩))
                have hL3 := HL.out.keep0 k3t
                have hD3 := HD.out.keep0 k3t
                obtain ⟨r, hr⟩ : ∃ r, tickD X d1 true = r := ⟨_, rfl⟩
                have htk := law_tick HMM.out hL3 HR.out (by omega) live go _ _ hD3 (by decide) (by decide)
                rw [HLBB.out] at htk
                obtain ⟨s', hs'⟩ : ∃ s', (tickE X s1 true).1 = s' := ⟨_, rfl⟩
                rw [hr, hs'] at htk
                have hR' : RelE X s' r.1 := by
                  have := (tickE_out HMM.out.g (live := true) HR.out).1
                  rw [hr, hs'] at this
                  exact this
                have hnow' : r.1.now ≤ 200 * i + (n + 1) := by
                  have := tickD_now X d1 true
                  rw [hr] at this
                  omega
                have hlen : r.2.length ≤ 1000 := by
                  have := tickD_len X d1 true
                  rw [hr] at this
                  exact this
                have HRN : Hid (tickD X d1 true = r) := hr
                have HASK := Lib.hid htk
                have HR5 := Lib.hid hR'
                have HN5 := Lib.hid hnow'
                have o3 : w3t.cell? ⟨go, 3, none⟩ = some (.int .u32 (live : Int)) := hD3.at_ HO3.out
                clear hr htk hs' hR' hnow' hL3 hD3 k3t HL HD HCD
                go_upto_region 21 with (go_at_call 11; refine HASK.out.mono ?_; rintro _ w5 ⟨A5, p5, rfl, o5, hL5, hd5⟩)
                have HL5 := Lib.hid hL5
                have HO5 := Lib.hid o5
                have HD5 := Lib.hid hd5
                have HCA5 := Lib.hid hL5.dd.cellsAt
                have hdk := dtick30_any HMM.out.g hL5.x HR.out (by omega) true
                rw [HRN.out] at hdk
                have HDK := Lib.hid hdk
                have e3 : w5.cell? ⟨go, 3, none⟩ = some (.int .u32 (live : Int)) := hd5.at_ HO3.out
                clear hL5 o5 hdk o3 hd5 HASK
                go_wp2_with (first
                  | (refine wpList_load_agg rfl 31 (.tmp 6) rfl rfl (cs := dcL V X d1) agg_E30 HCA5.out ?_)
                  | (go_at_call 12; refine HDK.out.mono ?_; rintro _ w6 ⟨A6, p6, rfl, o6, k6⟩)
                  | (refine stop_store 31 (.tmp 6) (.tmp 89) rfl ?_))
                constructor
                have hL6 := HL5.out.keep0 k6
                refine wpList_store_all rfl 31 (.tmp 6) (.tmp 89) rfl rfl rfl (vs := dcL V X r.1) agg_E30.2 hL6.dd (dcL_one _ _ _) rfl ?_
                intro w7 d7 k7
                have hL7 := hL6.done d7 k7
                have hD7 := Blk.keep (HD5.out.keep0 k6) k7 (fun hm => by
                  simp at hm
                  have h1 : w6.heap[go]? = _ := HD5.out.keep0 k6
                  rw [hm] at h1
                  have h2 : w6.heap[g]? = _ := hL6.dd
                  rw [h2] at h1
                  simp at h1)
                have q5 := own_keep (own_keep0 HO5.out k6) k7 (fun y hy hm => by simp at hm; subst hm; exact unown_ne (own_keep0 HO5.out k6) hL6.dd (by decide) hy)
                have q6 := own_keep o6 k7 (fun y hy hm => by simp at hm; subst hm; exact unown_ne o6 hL6.dd (by decide) hy)
                have HNW := Lib.hid (news30_any A5 A6 p5 p6 r.2 w7 (Reads.of_own q5) (Reads.of_own q6) hlen)
                have HL7 := Lib.hid hL7
                have HD7 := Lib.hid hD7
                have HSM := Lib.hid (fun w8 (k : Keep [] w7 w8) => law_same HMM.out (hL7.keep0 k) HR5.out (by have := HN5.out; omega))
                have HC7 := Lib.hid (fun w8 (k : Keep [] w7 w8) => (hL7.keep0 k).dd.cellsAt)
                clear hL6 d7 k7 hL7 q5 q6 o6 k6 HL5 HO5 HDK HCA5 e3 hD7 HD5
                go_upto_region 22 with fail
                go_wp2_with fail
                refine HNW.out.mono ?_
                rintro _ w8 ⟨rfl, k8⟩
                have hc8 := HC7.out _ k8
                go_wp2_with (refine wpList_agg_gd rfl 31 (.tmp 6) rfl rfl (cs := dcL V X r.1) agg_E30 hc8 ?_)
                refine (HSM.out _ k8).mono ?_
                rintro _ w9 ⟨rfl, k9⟩
                have HF := Lib.hid (HL7.out.keep0 (k8.then k9))
                have HFD := Lib.hid (HD7.out.keep0 (k8.then k9))
                clear k8 k9 hc8
                go_wp2_with fail
                go_roundw
                case rel => exact ⟨n + 1, s', r.1, hnt, by go_num, HF.out, HR5.out, HN5.out, HFD.out⟩
                case measure => simp [intOf] <;> omega
              · obtain rfl : n = T := by omega
                have qnt : ¬ (n : Int) < (n : Int) := by omega
                have qnd : decide ((n : Int) < (n : Int)) = false := by simp
                go_wp2_with (first
                  | (refine wpList_load_agg rfl 38 (.tmp 8) rfl rfl (cs := oc) (by rw [HOC.out]; exact agg_op30) HCD.out ?_)
                  | (go_at_call 10; refine (HTK.out _).mono ?_; rintro _ w3t ⟨rfl, k3t⟩))
                have HF := Lib.hid (HL.out.keep0 k3t)
                have HN : Hid (d1.now ≤ 200 * (i + 1)) := by show _ ≤ _; omega
                clear k3t HL HD HCD
                refine ⟨⟨i + 1, s1, d1, hlt, by go_num, HF.out, HR.out, HN.out⟩, ?_⟩
                simp [intOf] <;> omega
      · have p1 : ¬ (i : Int) < (ms.length : Int) := by omega
        have HA3 := HAL wr hL.k
        have HKL := Lib.hid hL.k
        clear hL hR HAL HMW
        generalize ms.length = nm at *
        go_wp2_with (go_at_call 5; refine HA3.out.mono ?_; rintro _ w4 ⟨rfl, k4⟩)
        go_ret
        exact ⟨rfl, HKL.out.then k4⟩
end Go.Proofs.YteflgdnekflbbaaGreatDoor
