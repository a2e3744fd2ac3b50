/- ChangeEnds: the law's walk. Condition: the table of math/bits lies where the program's text lays it. -/
import Derived.Test.YteflgdnekflbbaaDoorChO
import Derived.Deep.DeepCutAuto
namespace Go.Proofs.YteflgdnekflbbaaDoor
open Go.RowKit
attribute [local go_sem] Oper.semAt_some

theorem tickE_now {X : ChX} (g : ChG X) {s : EnS} {d : DcS} (h : RelE X s d) (l : Bool) : (tickD X d l).1.now = d.now + 1 := by
  have h0 : ∀ d, (comeD0 X d).1.now = d.now := fun d => by
    unfold comeD0 comeDW overD0
    dsimp only
    split <;> rfl
  have h1 : ∀ d k, (beginD X d k l).1.now = d.now := fun d k => by
    unfold beginD
    dsimp only
    split
    · exact h0 _
    · rfl
  have h2 : ∀ d, (overD1 X l d).1.now = d.now := fun d => by
    unfold overD1
    split
    · rfl
    · split
      · rfl
      · exact h1 _ _
  have h3 : ∀ d, (comeD1 X l d).1.now = d.now := fun d => by
    unfold comeD1 comeDW
    dsimp only
    split
    · rfl
    · exact h2 _
  unfold tickD
  dsimp only
  split
  · exact h2 _
  · split
    · exact h3 _
    · rfl
theorem askE_now {X : ChX} (d : DcS) (m : Int) (l : Bool) : (askD X d m l).1.now = d.now := by
  have h0 : ∀ d, (comeD0 X d).1.now = d.now := fun d => by
    unfold comeD0 comeDW overD0
    dsimp only
    split <;> rfl
  have h1 : ∀ d k, (beginD X d k l).1.now = d.now := fun d k => by
    unfold beginD
    dsimp only
    split
    · exact h0 _
    · rfl
  unfold askD
  split
  · rfl
  · split
    · rfl
    · split
      · rfl
      · split
        · rfl
        · exact h1 _ _
theorem RelE.boundE {X : ChX} {s : EnS} {d : DcS} (h : RelE X s d) : ∀ k, s.edge = some k → k < X.x.edges.length := fun k hk => by
  have ht := h.tm
  unfold TmRel at ht
  rw [hk] at ht
  exact ht.1
theorem RelE.tmE {X : ChX} {s : EnS} {d : DcS} (h : RelE X s d) (hp : s.ph = 0) : s.tm = [] := by
  have ht := h.tm
  unfold TmRel at ht
  cases he : s.edge with
  | none => rw [he] at ht; exact ht.2.2
  | some k =>
    rw [he] at ht
    rcases ht.2 with ⟨q, _⟩ | ⟨q, _⟩ | ⟨q, _⟩ | ⟨q, _⟩ <;> rw [q] at hp <;> cases hp
theorem rel_newE {X : ChX} (h : 0 < X.x.modes.length) : RelE X newS newDc := ⟨rfl, rfl, rfl, rfl, rfl, rfl, Nat.le_refl _, h, ⟨rfl, rfl, rfl⟩⟩
/-- The engine, in the law's loops. -/
structure LawE (w wr : World) (X : ChX) (c : Crt) (v : ImgV) (vc : CrtV) (b : Nat) (s : EnS) (d : DcS) : Prop where
  e : ∃ bs, EngAt wr b v X.x vc c s bs ∧ (∀ y ∈ bs, w.heap.size ≤ y)
  bz : w.heap.size ≤ b
  k : Keep [] w wr
  rel : RelE X s d
section
variable {w wr w' : World} {X : ChX} {c : Crt} {v : ImgV} {vc : CrtV} {b : Nat} {s : EnS} {d : DcS}
theorem LawE.keep0 (h : LawE w wr X c v vc b s d) (k : Keep [] wr w') : LawE w w' X c v vc b s d := by
  obtain ⟨bs, E, hb⟩ := h.e
  exact ⟨⟨bs, E.keep0 k, hb⟩, h.bz, h.k.then k, h.rel⟩
theorem LawE.step {s' : EnS} {d' : DcS} {bs bs' : List Nat} (h : LawE w wr X c v vc b s d) (hb0 : ∀ y ∈ bs, w.heap.size ≤ y) (E : EngAt w' b v X.x vc c s' bs') (hb : ∀ y ∈ bs', y ∈ bs ∨ wr.heap.size ≤ y) (k : Keep (b :: bs) wr w') (hR : RelE X s' d') : LawE w w' X c v vc b s' d' := by
  have hsz := h.k.size
  have hbz := h.bz
  refine ⟨⟨bs', E, fun y hy => ?_⟩, h.bz, h.k.trans k (fun y hy hlt => ?_), hR⟩
  · rcases hb y hy with hy | hy
    · exact hb0 y hy
    · omega
  · rcases List.mem_cons.1 hy with rfl | hy
    · omega
    · have := hb0 y hy; omega
theorem lawE_ask (m : ChM X c) (h : LawE w wr X c v vc b s d) (hnow : d.now < 1000000) (md : Int) (live : Nat) :
    Calls Tryd.prog 6 #[.pointer (some ⟨b, 0, none⟩), .int .i64 md, .int .u32 (live : Int)] wr fun e w' => ∃ v1 v2, e = .returned (.tuple #[v1, v2]) ∧ LawE w w' X c v vc b (askE X s md (decide (live ≠ 0))).1 (askD X d md (decide (live ≠ 0))).1 := by
  obtain ⟨bs, E, hb⟩ := h.e
  obtain ⟨hr, he⟩ := askE_out m.g (live := decide (live ≠ 0)) h.rel md
  refine (easkm_any m E (eshiftA m.g) h.rel.boundE h.rel.tmE (by have := h.rel.now; omega) md live).mono ?_
  rintro e w' ⟨A, p, bs', rfl, o, E', hb', k⟩
  exact ⟨_, _, rfl, h.step hb E' hb' k hr⟩
theorem lawE_tick (m : ChM X c) (h : LawE w wr X c v vc b s d) (hnow : d.now < 1000000) (live : Nat) :
    Calls Tryd.prog 8 #[.pointer (some ⟨b, 0, none⟩), .int .u32 (live : Int)] wr fun e w' => ∃ v1, e = .returned v1 ∧ LawE w w' X c v vc b (tickE X s (decide (live ≠ 0))).1 (tickD X d (decide (live ≠ 0))).1 := by
  obtain ⟨bs, E, hb⟩ := h.e
  obtain ⟨hr, he⟩ := tickE_out m.g (live := decide (live ≠ 0)) h.rel
  refine (etick_any m E h.rel (by have := h.rel.now; omega) live).mono ?_
  rintro e w' ⟨A, p, bs', rfl, o, E', hb', k⟩
  exact ⟨_, rfl, h.step hb E' hb' k hr⟩
theorem lawE_edge (h : LawE w wr X c v vc b s d) : Calls Tryd.prog 10 #[.pointer (some ⟨b, 0, none⟩)] wr fun e w' => e = .returned (.tuple #[.int .i64 (max (optI d.edge) 0), .bool (decide (0 ≤ optI d.edge))]) ∧ Keep [] wr w' := by
  obtain ⟨bs, E, hb⟩ := h.e
  rw [← h.rel.edge]
  exact eedge_any E
theorem lawE_held (h : LawE w wr X c v vc b s d) : Calls Tryd.prog 9 #[.pointer (some ⟨b, 0, none⟩)] wr fun e w' => e = .returned (.tuple #[.int .i64 (max (optI d.held) 0), .bool (decide (0 ≤ optI d.held))]) ∧ Keep [] wr w' := by
  obtain ⟨bs, E, hb⟩ := h.e
  rw [← h.rel.held]
  exact eheld_any E
theorem lawE_phase (h : LawE w wr X c v vc b s d) : Calls Tryd.prog 11 #[.pointer (some ⟨b, 0, none⟩)] wr fun e w' => e = .returned (.int .i64 (d.ph : Int)) ∧ wr = w' := by
  obtain ⟨bs, E, hb⟩ := h.e
  rw [← h.rel.ph]
  exact ephase_any E
end
/-- What the last loop keeps: n ticks have gone by, while no job is there. -/
def EndI (X : ChX) (d0 d : DcS) (n : Nat) : Prop :=
  (d0.held = none ∧ d.held = none ∧ ((d.ph = 0 ∧ d.edge = none) ∨ (d.ph ≠ 0 ∧ d.edge = d0.edge ∧ rem X d + n ≤ rem X d0))) ∨
  (d0.held ≠ none ∧ (d.held = none ∨ (d.held = d0.held ∧ d.ph ≠ 0 ∧ rem X d + n ≤ rem X d0)))
theorem endI_start {X : ChX} {s : EnS} {d : DcS} (h : RelE X s d) : EndI X d d 0 := by
  rcases h.ph_edge with ⟨h1, h2, h3⟩ | ⟨k, _, h1, h2⟩
  · exact .inl ⟨h3, h3, .inl ⟨h2, h1⟩⟩
  · by_cases hh : d.held = none
    · exact .inl ⟨hh, hh, .inr ⟨h2, rfl, Nat.le_refl _⟩⟩
    · exact .inr ⟨hh, .inr ⟨rfl, h2, Nat.le_refl _⟩⟩
theorem endI_tick {X : ChX} {s : EnS} {d0 d : DcS} {n : Nat} (h : RelE X s d) (hp : d.ph ≠ 0) (hI : EndI X d0 d n) : EndI X d0 (tickD X d false).1 (n + 1) := by
  rcases hI with ⟨h1, h2, h3⟩ | ⟨h1, h2⟩
  · obtain ⟨g1, g2⟩ := tick_none h h2 hp
    refine .inl ⟨h1, g1, ?_⟩
    rcases h3 with ⟨h3, _⟩ | ⟨_, h4, h5⟩
    · exact absurd h3 hp
    · rcases g2 with g2 | ⟨g2, g3, g4⟩
      · exact .inl g2
      · exact .inr ⟨g2, g3.trans h4, by omega⟩
  · refine .inr ⟨h1, ?_⟩
    rcases h2 with h2 | ⟨h2, _, h4⟩
    · exact .inl (tick_none h h2 hp).1
    · rcases tick_some h hp with g | ⟨g1, g2, g3⟩
      · exact .inl g
      · exact .inr ⟨g1.trans h2, g2, by omega⟩
theorem endI_edge {X : ChX} {d0 d : DcS} {n : Nat} (hI : EndI X d0 d n) (hh : d0.held = none) : d.edge = none ∨ d.edge = d0.edge := by
  rcases hI with ⟨_, _, ⟨_, h⟩ | ⟨_, h, _⟩⟩ | ⟨h, _⟩
  · exact .inl h
  · exact .inr h
  · exact absurd hh h
theorem endI_end {X : ChX} {s s0 : EnS} {d0 d : DcS} {n N : Nat} (h0 : RelE X s0 d0) (h : RelE X s d) (hN : ∀ k, k < X.x.edges.length → X.la k + X.st k ≤ N) (hI : EndI X d0 d n) (hx : d.ph = 0 ∨ N < n) : (d0.held = none → d.ph = 0) ∧ (d0.held ≠ none → d.held = none) := by
  have hr := rem_le h0 hN
  refine ⟨fun hh => ?_, fun hh => ?_⟩
  · rcases hI with ⟨_, _, ⟨h1, _⟩ | ⟨h1, _, h2⟩⟩ | ⟨h1, _⟩
    · exact h1
    · rcases hx with hx | hx
      · exact hx
      · have := rem_pos h h1; omega
    · exact absurd hh h1
  · rcases hI with ⟨h1, _, _⟩ | ⟨_, h1 | ⟨_, h1, h2⟩⟩
    · exact absurd h1 hh
    · exact h1
    · rcases hx with hx | hx
      · exact absurd hx h1
      · have := rem_pos h h1; omega
set_option maxRecDepth 100000 in
set_option maxHeartbeats 8000000 in
theorem changeEnds_any (v : ImgV) (x : Img) (A0 : Option Addr) (c0 : Nat) (ms : List Op30) (w : World) (hTb : Tab w) (hI : ImgAt w v x) (hm : Ops30At w A0 ms) :
    Calls Tryd.prog 3 #[.agg (imgCells v x).toArray, .slice A0 ms.length c0] w fun e w' => e = .returned (.bool true) ∧ Keep [] w w' := by
  have hml := hm.len
  unfold maxLen at hml
  obtain ⟨W1, hW1⟩ : ∃ W1, w.alloc (.cells (imgCells v x).toArray 26) = W1 := ⟨_, rfl⟩
  have b0 : Blk W1 w.heap.size 26 (imgCells v x).toArray := by rw [← hW1]; exact img_box w v x
  have K1 : Keep [] w W1 := by rw [← hW1]; exact (Keep.refl _ w).alloc _
  have HAL := fun w' (k : Keep [] w w') => Lib.hid (alive30_any w' (hTb.keep0 k))
  have HCI := Lib.hid b0.cellsAt
  have HW := Lib.hid hW1
  have HK1 := Lib.hid K1
  have HIL : Hid ((imgCells v x).length = 4) := show _ = _ from rfl
  have HMW := Lib.hid hm
  by_cases hadm : greatImg x = true ∨ (admM x).2.2 ≠ 0
  · have HEN := Lib.hid (engine30_no (hTb.keep0 K1) (hI.keep0 K1) hadm)
    clear hW1 b0 K1 hTb hI hm hadm
    generalize imgCells v x = il at *
    go_enter Tryd.func3, Tryd.ntmps3
    go_wp2_with (first
      | rw [HW.out]
      | (refine wpList_load_agg rfl 26 (.tmp 2) rfl rfl (cs := il) (by rw [HIL.out]; exact agg_image) HCI.out ?_)
      | (go_at_call 4; refine HEN.out.mono ?_; rintro _ w2 ⟨rfl, k2⟩)
      | (refine stop_store 31 (.tmp 6) (.tmp 25) rfl ?_))
    constructor
    refine wpList_store_all rfl 31 (.tmp 6) (.tmp 25) rfl rfl rfl (vs := zE30) agg_E30.2 (Blk.new _ _ _) zE30_one rfl ?_
    intro w3 d3 k3
    have K3 : Keep [] w w3 := (HK1.out.then k2).trans (((Keep.refl [] w2).alloc _).trans k3 (fun y hy hlt => by simp at hy; omega)) (fun y hy _ => hy)
    have HA3 := HAL w3 K3
    clear k2 k3 d3
    go_wp2_with (go_at_call 5; refine HA3.out.mono ?_; rintro _ w4 ⟨rfl, k4⟩)
    go_ret
    exact ⟨rfl, K3.then k4⟩
  · have hg : greatImg x = false := by cases hgg : greatImg x with | true => exact absurd (.inl hgg) hadm | false => rfl
    have ha : (admM x).2.2 = 0 := by by_cases h : (admM x).2.2 = 0; exact h; exact absurd (.inr h) hadm
    have HEN := Lib.hid (engine30_yes (hTb.keep0 K1) (hI.keep0 K1) hg ha)
    obtain ⟨hadmE, m⟩ := chM_of hI.ok ha
    have hmod := (right_of (adm_ok ha).1).nm.1
    have HIMG := Lib.hid (fun w' (k : Keep [] w w') => hI.keep0 k)
    have hlat : (chX x).lat.length = (chX x).x.edges.length := by unfold chX; simp
    have hstl : (chX x).stl.length = (chX x).x.edges.length := by unfold chX; simp
    have HLT := Lib.hid hlat
    have HST := Lib.hid hstl
    have HNE := Lib.hid (show (chX x).x.edges.length ≤ 24 from (right_of (adm_ok ha).1).ne)
    have HR0 := Lib.hid (rel_newE (X := chX x) hmod)
    have HMM := Lib.hid m
    clear hW1 b0 K1 hTb hI hm hadm hadmE hg ha hmod hlat hstl m
    generalize fullCrt x = c at *
    generalize hX : chX x = X at *
    have hXx : X.x = x := by rw [← hX]; rfl
    subst hXx
    clear hX
    generalize imgCells v X.x = il at *
    by_cases h20 : 20 < ms.length
    · have q20 : (20 : Int) < (ms.length : Int) := by omega
      have q21 : decide ((20 : Int) < (ms.length : Int)) = true := decide_eq_true q20
      go_enter Tryd.func3, Tryd.ntmps3
      go_wp2_with (first
        | rw [HW.out]
        | (refine wpList_load_agg rfl 26 (.tmp 2) rfl rfl (cs := il) (by rw [HIL.out]; exact agg_image) HCI.out ?_)
        | (go_at_call 4; refine HEN.out.mono ?_; rintro _ w2 ⟨b, v2, vc, V, rfl, hbz, E2, hVv, hla, hsa, k2⟩)
        | (refine stop_store 31 (.tmp 6) (.tmp 25) rfl ?_))
      constructor
      refine wpList_store_all rfl 31 (.tmp 6) (.tmp 25) rfl rfl rfl (vs := dcL V X newDc) agg_E30.2 (Blk.new _ _ _) (dcL_one _ _ _) rfl ?_
      intro w3 d3 k3
      have K3 : Keep [] w w3 := (HK1.out.then k2).trans (((Keep.refl [] w2).alloc _).trans k3 (fun y hy hlt => by simp at hy; omega)) (fun y hy _ => hy)
      clear k2 k3 d3 E2 hla hsa HMW h20
      generalize ms.length = nm at *
      go_wp2
      go_ret
      exact ⟨rfl, K3⟩
    have q20 : ¬ (20 : Int) < (ms.length : Int) := by omega
    have q21 : decide ((20 : Int) < (ms.length : Int)) = false := decide_eq_false q20
    go_enter Tryd.func3, Tryd.ntmps3
    go_wp2_with (first
      | rw [HW.out]
      | (refine wpList_load_agg rfl 26 (.tmp 2) rfl rfl (cs := il) (by rw [HIL.out]; exact agg_image) HCI.out ?_)
      | (go_at_call 4; refine HEN.out.mono ?_; rintro _ w2 ⟨b, v2, vc, V, rfl, hbz, E2, hVv, hla, hsa, k2⟩)
      | (refine stop_store 31 (.tmp 6) (.tmp 25) rfl ?_))
    constructor
    refine wpList_store_all rfl 31 (.tmp 6) (.tmp 25) rfl rfl rfl (vs := dcL V X newDc) agg_E30.2 (Blk.new _ _ _) (dcL_one _ _ _) rfl ?_
    intro w3 d3 k3
    have K23 : Keep [] w2 w3 := ((Keep.refl [] w2).alloc _).trans k3 (fun y hy hlt => by simp at hy; omega)
    have hwz : w.heap.size ≤ w2.heap.size := (HK1.out.then k2).size
    have hL0 : LawE w w3 X c v2 vc b newS newDc := ⟨⟨[], E2.keep0 K23, fun y hy => by cases hy⟩, Nat.le_trans HK1.out.size hbz, (HK1.out.then k2).then K23, HR0.out⟩
    have HL0 := Lib.hid hL0
    have HD0 := Lib.hid d3
    obtain ⟨la, lo, hLA, hlc⟩ : ∃ bb o, (0 < X.lat.length → V.la = some ⟨bb, o, none⟩) ∧ ∀ k, k < X.lat.length → ∀ w', Keep [] w3 w' → w'.cell? ⟨bb, o + k, none⟩ = some (.int .i64 (X.la k : Int)) := by
      by_cases h0 : 0 < X.lat.length
      · obtain ⟨bb, o, h1, _⟩ := row_nat (W0 := w3) (A := V.la) (l := X.lat) (fun w' kk => Reads.of_own (own_keep0 hla (K23.then kk))) h0
        refine ⟨bb, o, fun _ => h1, fun k hk w' kk => ?_⟩
        obtain ⟨bb2, o2, h2, h3⟩ := row_nat (W0 := w3) (A := V.la) (l := X.lat) (fun w' kk => Reads.of_own (own_keep0 hla (K23.then kk))) hk
        rw [h1] at h2
        cases h2
        exact h3 w' kk
      · exact ⟨0, 0, fun h => absurd h h0, fun k hk => absurd hk (by omega)⟩
    obtain ⟨sb, so, hSA, hsc⟩ : ∃ bb o, (0 < X.stl.length → V.sa = some ⟨bb, o, none⟩) ∧ ∀ k, k < X.stl.length → ∀ w', Keep [] w3 w' → w'.cell? ⟨bb, o + k, none⟩ = some (.int .i64 (X.st k : Int)) := by
      by_cases h0 : 0 < X.stl.length
      · obtain ⟨bb, o, h1, _⟩ := row_nat (W0 := w3) (A := V.sa) (l := X.stl) (fun w' kk => Reads.of_own (own_keep0 hsa (K23.then kk))) h0
        refine ⟨bb, o, fun _ => h1, fun k hk w' kk => ?_⟩
        obtain ⟨bb2, o2, h2, h3⟩ := row_nat (W0 := w3) (A := V.sa) (l := X.stl) (fun w' kk => Reads.of_own (own_keep0 hsa (K23.then kk))) hk
        rw [h1] at h2
        cases h2
        exact h3 w' kk
      · exact ⟨0, 0, fun h => absurd h h0, fun k hk => absurd hk (by omega)⟩
    have HLA := Lib.hid hLA
    have HSA := Lib.hid hSA
    have HLC := Lib.hid hlc
    have HSC := Lib.hid hsc
    clear E2 hVv hla hsa k2 k3 d3 K23 hbz hwz HIMG HEN HCI HW HIL hL0 hLA hSA hlc hsc HR0
    generalize hgb : w2.heap.size = g at *
    clear hgb
    go_upto_region 8 with fail
    clear q21
    go_loopw [7, 8, 9] (fun v7 v8 v9 wr => ∃ (i N : Nat), i ≤ X.lat.length ∧ v8 = .int .i64 (i : Int) ∧ v7 = .int .i64 (N : Int) ∧ N ≤ 131072 ∧ (∀ j, j < i → X.la j + X.st j ≤ N) ∧ Keep [] w3 wr) (fun _ v8 _ _ => X.lat.length - (intOf v8).toNat)
    case atStart => exact ⟨0, 0, Nat.zero_le _, rfl, rfl, Nat.zero_le _, fun j hj => absurd hj (Nat.not_lt_zero _), Keep.refl _ _⟩
    case round =>
      obtain ⟨i, N, hi, rfl, rfl, hN1, hN2, hkp⟩ := hrel
      have HKP := Lib.hid hkp
      have c4 := (dc_cells (HD0.out.keep0 hkp)).1.2.2.1
      have hll : X.lat.length ≤ 24 := by rw [HLT.out]; exact HNE.out
      by_cases hlt : i < X.lat.length
      · have hls : i < X.stl.length := by rw [HST.out, ← HLT.out]; exact hlt
        have hF : ∀ w', Keep [] wr w' → w'.cell? ⟨g, 4, none⟩ = some (.slice (some ⟨la, lo, none⟩) X.lat.length V.lc) ∧ w'.cell? ⟨g, 5, none⟩ = some (.slice (some ⟨sb, so, none⟩) X.stl.length V.sc) ∧ w'.cell? ⟨la, lo + i, none⟩ = some (.int .i64 (X.la i : Int)) ∧ w'.cell? ⟨sb, so + i, none⟩ = some (.int .i64 (X.st i : Int)) := fun w' kk => by
          have kk2 := HKP.out.then kk
          obtain ⟨⟨_, _, d4, d5⟩, _⟩ := dc_cells (HD0.out.keep0 kk2)
          exact ⟨by rw [d4, HLA.out (by omega)], by rw [d5, HSA.out (by omega)], HLC.out i hlt w' kk2, HSC.out i hls w' kk2⟩
        have g1 := HMM.out.g.la i
        have g2 := HMM.out.g.st i
        obtain ⟨sm, hsm⟩ : ∃ sm, X.la i + X.st i = sm := ⟨_, rfl⟩
        have hws : IntKind.i64.wrap ((X.la i : Int) + (X.st i : Int)) = (sm : Int) := by rw [IntWalk.i64_in _ (by omega)]; omega
        have p0 : (0 : Int) ≤ (i : Int) := by omega
        have p1 : (i : Int) < (X.lat.length : Int) := by omega
        have p2 : (i : Int) < (X.stl.length : Int) := by omega
        have HN2 := Lib.hid hN2
        have HSM := Lib.hid hsm
        clear hN2 hkp hsm
        go_upto_region 10 with fail
        clear c4
        refine wp_region_flow (Keep [] wr) rfl (by kernel_rfl) (Keep.refl _ _).drew ?_
        repeat (refine fl_val (v := ?_) (by rfl) ?_ ?_; rotate_left; (intro w' hS; obtain ⟨f1,f2,f3,f4⟩ := hF w' hS; go_simp; with_reducible rfl); simp only [Act.put, List.setIfInBounds_toArray, List.set_cons_zero, List.set_cons_succ])
        refine fl_nil ?_
        intro w4 hS
        have K4 := Lib.hid (HKP.out.then hS)
        clear hF hS hws
        by_cases hgt : N < sm
        · have q1 : (N : Int) < (sm : Int) := by omega
          have HB : Hid (∀ j, j < i + 1 → X.la j + X.st j ≤ sm) := fun j hj => by
            by_cases hji : j < i
            · have := HN2.out j hji; omega
            · obtain rfl : j = i := by omega
              rw [HSM.out]; exact Nat.le_refl _
          have hsm2 : sm ≤ 131072 := by have := HSM.out; omega
          go_wp2
          go_roundw
          case rel => exact ⟨i + 1, sm, hlt, by go_num, rfl, hsm2, HB.out, K4.out⟩
          case measure => simp [intOf] <;> omega
        · have q1 : ¬ (N : Int) < (sm : Int) := by omega
          have HB : Hid (∀ j, j < i + 1 → X.la j + X.st j ≤ N) := fun j hj => by
            by_cases hji : j < i
            · exact HN2.out j hji
            · obtain rfl : j = i := by omega
              have := HSM.out; omega
          go_wp2
          go_roundw
          case rel => exact ⟨i + 1, N, hlt, by go_num, rfl, hN1, HB.out, K4.out⟩
          case measure => simp [intOf] <;> omega
      · have p1 : ¬ (i : Int) < (X.lat.length : Int) := by omega
        have HNA : Hid (∀ k, k < X.x.edges.length → X.la k + X.st k ≤ N) := fun k hk => hN2 k (by rw [← HLT.out] at hk; omega)
        have HLW := Lib.hid (HL0.out.keep0 hkp)
        clear hN2 hkp HL0
        by_cases h3k : 3000 < N
        · have q3 : (3000 : Int) < (N : Int) := by omega
          have HKK := Lib.hid HLW.out.k
          clear HMW
          generalize ms.length = nm at *
          go_wp2
          go_ret
          exact ⟨rfl, HKK.out⟩
        · have q3 : ¬ (3000 : Int) < (N : Int) := by omega
          go_upto_region 16 with fail
          clear c4 q3 p1
          generalize wr = wo at *
          go_loopw [10, 11] (fun v10 v11 wr => ∃ (i : Nat) (s : EnS) (d : DcS), i ≤ ms.length ∧ v10 = .int .i64 (i : Int) ∧ LawE w wr X c v2 vc b s d ∧ d.now ≤ 200 * i) (fun v10 _ _ => ms.length - (intOf v10).toNat)
          case atStart => exact ⟨0, newS, newDc, Nat.zero_le _, rfl, HLW.out, Nat.le_refl _⟩
          case round =>
            clear HLW
            obtain ⟨i, s, d, hi, rfl, hL, hnow⟩ := hrel
            have HL := Lib.hid hL
            have HK := Lib.hid hL.k
            clear hL
            by_cases hlt : i < ms.length
            · obtain ⟨ba, oa, hA0, hba, hca⟩ := Reads.elem (cells := op30Cells) (size := 4) (l := ms) HMW.out.rows rfl (fun a _ => rfl) i hlt
              have p0 : (0 : Int) ≤ (i : Int) := by omega
              have p1 : (i : Int) < (ms.length : Int) := by omega
              have HA0 := Lib.hid hA0
              generalize ms[i] = o at *
              obtain ⟨ask, md, tk, live⟩ := o
              have HCO : Hid (∀ w', Keep [] w w' → CellsAt w' ba (oa + i * 4) (opCells ask md tk live)) := fun w' kk => CellsAt.keep0 hca kk hba
              have o0 := HCO.out wr HK.out 0 _ rfl
              rw [Nat.add_zero] at o0
              have o0' : wr.cell? ⟨ba, oa + i * 4, none⟩ = some (.bool ask) := o0
              rw [hA0]
              clear hca hA0 o0
              cases ask with
              | true =>
                have hF : ∀ w', Keep [] wr w' → w'.cell? ⟨ba, oa + i * 4 + 1, none⟩ = some (.int .i64 md) ∧ w'.cell? ⟨ba, oa + i * 4 + 3, none⟩ = some (.int .u32 (live : Int)) := fun w' kk => ⟨HCO.out w' (HK.out.then kk) 1 _ rfl, HCO.out w' (HK.out.then kk) 3 _ rfl⟩
                have HAS := Lib.hid (fun w' (k : Keep [] wr w') => lawE_ask HMM.out (HL.out.keep0 k) (by omega) md live)
                have HN2 : Hid ((askD X d md (decide (live ≠ 0))).1.now ≤ 200 * (i + 1)) := by show _ ≤ _; rw [askE_now]; omega
                go_upto_region 19 with fail
                clear o0'
                refine ap_begin 11 (Keep [] wr) rfl (Keep.refl _ _).drew (fun hS hPan => ?_) (fun _ _ d _ _ h => by cases d <;> exact h)
                (refine ap_val (v := ?_) 0 rfl (by kernel_rfl) (by kernel_rfl) (by kernel_rfl) (by kernel_rfl) (by rfl) hPan ?_ hS ?_; rotate_left; (intro w' hSw; obtain ⟨f1,f2⟩ := hF w' hSw; go_simp; try with_reducible rfl); simp only [Act.put, List.setIfInBounds_toArray, List.set_cons_zero, List.set_cons_succ])
                (refine ap_val (v := ?_) 1 rfl (by kernel_rfl) (by kernel_rfl) (by kernel_rfl) (by kernel_rfl) (by rfl) hPan ?_ hS ?_; rotate_left; (intro w' hSw; obtain ⟨f1,f2⟩ := hF w' hSw; go_simp; try with_reducible rfl); simp only [Act.put, List.setIfInBounds_toArray, List.set_cons_zero, List.set_cons_succ])
                (refine ap_val (v := ?_) 2 rfl (by kernel_rfl) (by kernel_rfl) (by kernel_rfl) (by kernel_rfl) (by rfl) hPan ?_ hS ?_; rotate_left; (intro w' hSw; obtain ⟨f1,f2⟩ := hF w' hSw; go_simp; try with_reducible rfl); simp only [Act.put, List.setIfInBounds_toArray, List.set_cons_zero, List.set_cons_succ])
                (refine ap_val (v := ?_) 3 rfl (by kernel_rfl) (by kernel_rfl) (by kernel_rfl) (by kernel_rfl) (by rfl) hPan ?_ hS ?_; rotate_left; (intro w' hSw; obtain ⟨f1,f2⟩ := hF w' hSw; go_simp; try with_reducible rfl); simp only [Act.put, List.setIfInBounds_toArray, List.set_cons_zero, List.set_cons_succ])
                (refine ap_val (v := ?_) 4 rfl (by kernel_rfl) (by kernel_rfl) (by kernel_rfl) (by kernel_rfl) (by rfl) hPan ?_ hS ?_; rotate_left; (intro w' hSw; obtain ⟨f1,f2⟩ := hF w' hSw; go_simp; try with_reducible rfl); simp only [Act.put, List.setIfInBounds_toArray, List.set_cons_zero, List.set_cons_succ])
                (refine ap_val (v := ?_) 5 rfl (by kernel_rfl) (by kernel_rfl) (by kernel_rfl) (by kernel_rfl) (by rfl) hPan ?_ hS ?_; rotate_left; (intro w' hSw; obtain ⟨f1,f2⟩ := hF w' hSw; go_simp; try with_reducible rfl); simp only [Act.put, List.setIfInBounds_toArray, List.set_cons_zero, List.set_cons_succ])
                (refine ap_val (v := ?_) 6 rfl (by kernel_rfl) (by kernel_rfl) (by kernel_rfl) (by kernel_rfl) (by rfl) hPan ?_ hS ?_; rotate_left; (intro w' hSw; obtain ⟨f1,f2⟩ := hF w' hSw; go_simp; try with_reducible rfl); simp only [Act.put, List.setIfInBounds_toArray, List.set_cons_zero, List.set_cons_succ])
                (refine ap_val (v := ?_) 7 rfl (by kernel_rfl) (by kernel_rfl) (by kernel_rfl) (by kernel_rfl) (by rfl) hPan ?_ hS ?_; rotate_left; (intro w' hSw; obtain ⟨f1,f2⟩ := hF w' hSw; go_simp; try with_reducible rfl); simp only [Act.put, List.setIfInBounds_toArray, List.set_cons_zero, List.set_cons_succ])
                (refine ap_val (v := ?_) 8 rfl (by kernel_rfl) (by kernel_rfl) (by kernel_rfl) (by kernel_rfl) (by rfl) hPan ?_ hS ?_; rotate_left; (intro w' hSw; obtain ⟨f1,f2⟩ := hF w' hSw; go_simp; try with_reducible rfl); simp only [Act.put, List.setIfInBounds_toArray, List.set_cons_zero, List.set_cons_succ])
                (refine ap_val (v := ?_) 9 rfl (by kernel_rfl) (by kernel_rfl) (by kernel_rfl) (by kernel_rfl) (by rfl) hPan ?_ hS ?_; rotate_left; (intro w' hSw; obtain ⟨f1,f2⟩ := hF w' hSw; go_simp; try with_reducible rfl); simp only [Act.put, List.setIfInBounds_toArray, List.set_cons_zero, List.set_cons_succ])
                (refine ap_val (v := ?_) 10 rfl (by kernel_rfl) (by kernel_rfl) (by kernel_rfl) (by kernel_rfl) (by rfl) hPan ?_ hS ?_; rotate_left; (intro w' hSw; obtain ⟨f1,f2⟩ := hF w' hSw; go_simp; try with_reducible rfl); simp only [Act.put, List.setIfInBounds_toArray, List.set_cons_zero, List.set_cons_succ])
                refine ap_one 11 (by kernel_rfl) ?_
                refine op_call (f := 6) 11 rfl (by rfl) rfl (by simp only [List.map_toArray, List.map_cons, List.map_nil]; rfl) Tryd.func6 (by kernel_rfl) (by kernel_rfl) (HAS.out _ hS) ?_
                rintro e w4 ⟨v1, v2', rfl, hL4⟩
                refine ⟨_, rfl, fun hp => (by cases hp), ap_done (by kernel_rfl) ?_ _⟩
                (simp only [Act.put])
                have HL4 := Lib.hid hL4
                clear hF hS hPan hL4 HAS
                go_wp2_with fail
                refine ⟨⟨i + 1, _, _, hlt, by go_num, HL4.out, HN2.out⟩, ?_⟩
                simp [intOf] <;> omega
              | false =>
                obtain ⟨T, hT⟩ : ∃ T, tkN tk = T := ⟨_, rfl⟩
                have hT2 := (tkN_is tk).2.1
                rw [hT] at hT2
                have HTK := Lib.hid (fun W => ticks30_any false md tk live W)
                simp only [hT] at HTK
                clear hT
                generalize hop : opCells false md tk live = oc at *
                have HOC : Hid (oc.length = 4) := by show _ = _; rw [← hop]; rfl
                have HO3 : Hid (oc[3]? = some (.int .u32 (live : Int))) := by show _ = _; rw [← hop]; rfl
                clear hop
                go_upto_region 21 with fail
                clear o0'
                generalize wr = wo2 at *
                go_loopw [11] (fun v11 wr => ∃ (n : Nat) (s1 : EnS) (d1 : DcS), n ≤ T ∧ v11 = .int .i64 (n : Int) ∧ LawE w wr X c v2 vc b s1 d1 ∧ d1.now ≤ 200 * i + n) (fun v11 _ => T - (intOf v11).toNat)
                case atStart => exact ⟨0, s, d, Nat.zero_le _, rfl, HL.out, hnow⟩
                case round =>
                  obtain ⟨n, s1, d1, hn, rfl, hL, hnw⟩ := hrel
                  have HL := Lib.hid hL
                  have HCD := Lib.hid (HCO.out wr hL.k)
                  clear hL
                  by_cases hnt : n < T
                  · have qnt : (n : Int) < (T : Int) := by omega
                    go_upto_region 23 with (first
                      | (refine wpList_load_agg rfl 38 (.tmp 82) rfl rfl (cs := oc) (by rw [HOC.out]; exact agg_op30) HCD.out ?_)
                      | (go_at_call 7; refine (HTK.out _).mono ?_; rintro _ w3t ⟨rfl, k3t⟩))
                    have hL3 := HL.out.keep0 k3t
                    have HTC := Lib.hid (lawE_tick HMM.out hL3 (by omega) live)
                    have HN2 : Hid ((tickD X d1 (decide (live ≠ 0))).1.now ≤ 200 * i + (n + 1)) := by show _ ≤ _; rw [tickE_now HMM.out.g hL3.rel]; omega
                    have o3 : w3t.cell? ⟨ba, oa + i * 4 + 3, none⟩ = some (.int .u32 (live : Int)) := HCO.out w3t hL3.k 3 _ HO3.out
                    clear hL3 k3t HCD
                    go_wp2_with (go_at_call 8; refine HTC.out.mono ?_; rintro _ w5 ⟨v1, rfl, hL5⟩; have HL5 := Lib.hid hL5; clear hL5 o3)
                    go_roundw
                    case rel => exact ⟨n + 1, _, _, hnt, by go_num, HL5.out, HN2.out⟩
                    case measure => simp [intOf] <;> omega
                  · obtain rfl : n = T := by omega
                    have qnt : ¬ (n : Int) < (n : Int) := by omega
                    have qnd : decide ((n : Int) < (n : Int)) = false := by simp
                    go_wp2_with (first
                      | (refine wpList_load_agg rfl 38 (.tmp 82) rfl rfl (cs := oc) (by rw [HOC.out]; exact agg_op30) HCD.out ?_)
                      | (go_at_call 7; refine (HTK.out _).mono ?_; rintro _ w3t ⟨rfl, k3t⟩))
                    have HF := Lib.hid (HL.out.keep0 k3t)
                    have HN : Hid (d1.now ≤ 200 * (i + 1)) := by show _ ≤ _; omega
                    refine ⟨⟨i + 1, s1, d1, hlt, by go_num, HF.out, HN.out⟩, ?_⟩
                    simp [intOf] <;> omega
            · have p1 : ¬ (i : Int) < (ms.length : Int) := by omega
              have hi20 : i ≤ 20 := by omega
              have hnow2 : d.now ≤ 4000 := by omega
              have HAL2 := Lib.hid HAL
              have HED := fun w' (k : Keep [] wr w') => Lib.hid (lawE_edge (HL.out.keep0 k))
              have HHD := fun w' (k : Keep [] wr w') => Lib.hid (lawE_held (HL.out.keep0 k))
              have hpe := HL.out.rel.ph_edge
              have HIS := Lib.hid (endI_start HL.out.rel)
              have HR0 := Lib.hid HL.out.rel
              clear HMW HAL
              generalize ms.length = nm at *
              have hcase : (d.edge = none ∧ d.held = none) ∨ (∃ ke, d.edge = some ke ∧ d.held = none) ∨ (∃ ke kh, d.edge = some ke ∧ d.held = some kh) := by
                rcases hpe with ⟨h1, _, h3⟩ | ⟨k, _, h1, _⟩
                · exact .inl ⟨h1, h3⟩
                · cases hh : d.held with
                  | none => exact .inr (.inl ⟨k, h1, rfl⟩)
                  | some kh => exact .inr (.inr ⟨k, kh, h1, rfl⟩)
              clear hpe
              rcases hcase with ⟨he, hh⟩ | ⟨ke, he, hh⟩ | ⟨ke, kh, he, hh⟩
              · rw [he] at HED
                rw [hh] at HHD
                simp only [show optI none = -1 from rfl, show max (-1 : Int) 0 = 0 by decide, show decide ((0 : Int) ≤ -1) = false by decide] at HED
                simp only [show optI none = -1 from rfl, show max (-1 : Int) 0 = 0 by decide, show decide ((0 : Int) ≤ -1) = false by decide] at HHD
                have HE0 := Lib.hid he
                have HH0 := Lib.hid hh
                clear he hh
                go_upto_region 29 with (first
                  | (go_at_call 9; refine (HHD _ (Keep.refl _ _)).out.mono ?_; rintro _ wa ⟨rfl, ka⟩)
                  | (go_at_call 10; refine (HED _ ka).out.mono ?_; rintro _ wb ⟨rfl, kb⟩))
                have HLB := Lib.hid (HL.out.keep0 (ka.then kb))
                clear ka kb HED HHD HL
                generalize wr = wo3 at *
                go_loopw [16, 17, 18] (fun v16 v17 v18 wr => ∃ (n : Nat) (s1 : EnS) (d1 : DcS), v16 = .int .i64 (n : Int) ∧ n ≤ N + 1 ∧ LawE w wr X c v2 vc b s1 d1 ∧ EndI X d d1 n ∧ d1.now ≤ 4000 + n) (fun v16 _ _ _ => N + 1 - (intOf v16).toNat)
                case atStart => exact ⟨0, s, d, rfl, Nat.zero_le _, HLB.out, HIS.out, by omega⟩
                case round =>
                  obtain ⟨n, s1, d1, rfl, hn, hL, hEI, hnw⟩ := hrel
                  have HL := Lib.hid hL
                  have HEI := Lib.hid hEI
                  have HPH := Lib.hid (lawE_phase hL)
                  have HKL := Lib.hid hL.k
                  clear hL hEI HLB HIS
                  by_cases hnN : n ≤ N
                  · have q1 : (n : Int) ≤ (N : Int) := by omega
                    by_cases hp : d1.ph = 0
                    · rw [hp] at HPH
                      have HP0 := Lib.hid hp
                      clear hp
                      go_wp2_with fail
                      refine HPH.out.mono ?_
                      rintro _ wp ⟨rfl, rfl⟩
                      have hend := endI_end HR0.out HL.out.rel HNA.out HEI.out (.inl HP0.out)
                      have HP := Lib.hid (hend.1 HH0.out)
                      have hph2 := Lib.hid (lawE_phase HL.out)
                      rw [HP.out] at hph2
                      have HAA := Lib.hid (HAL2.out _ HKL.out).out
                      clear hend HPH
                      go_upto_region 36 with fail
                      go_wp2_with fail
                      refine hph2.out.mono ?_
                      rintro _ wq ⟨rfl, rfl⟩
                      go_wp2_with fail
                      refine HAA.out.mono ?_
                      rintro _ wz ⟨rfl, kz⟩
                      go_wp2_with fail
                      go_ret
                      exact ⟨rfl, HKL.out.then kz⟩
                    · have qp : ¬ (d1.ph : Int) = 0 := by omega
                      have HTC := Lib.hid (lawE_tick HMM.out HL.out (by omega) 0)
                      rw [show decide ((0 : Nat) ≠ 0) = false from rfl] at HTC
                      have HEN := Lib.hid (endI_tick HL.out.rel hp HEI.out)
                      have HN2 : Hid ((tickD X d1 false).1.now ≤ 4000 + (n + 1)) := by show _ ≤ _; rw [tickE_now HMM.out.g HL.out.rel]; omega
                      obtain ⟨s', hs'⟩ : ∃ s', (tickE X s1 false).1 = s' := ⟨_, rfl⟩
                      obtain ⟨d', hd'⟩ : ∃ d', (tickD X d1 false).1 = d' := ⟨_, rfl⟩
                      rw [hs', hd'] at HTC
                      rw [hd'] at HEN HN2
                      clear hs' hd' hp
                      go_wp2_with fail
                      refine HPH.out.mono ?_
                      rintro _ wp ⟨rfl, rfl⟩
                      go_upto_region 32 with (go_at_call 8; refine HTC.out.mono ?_; rintro _ w5 ⟨v1, rfl, hL5⟩)
                      have HL5 := Lib.hid hL5
                      have HED := Lib.hid (lawE_edge hL5)
                      clear hL5 HTC HL HEI
                      have hde : d'.edge = none := by
                        rcases endI_edge HEN.out HH0.out with h | h
                        · exact h
                        · rw [h, HE0.out]
                      rw [hde] at HED
                      simp only [show optI none = -1 from rfl, show max (-1 : Int) 0 = 0 by decide, show decide ((0 : Int) ≤ -1) = false by decide] at HED
                      clear hde
                      go_upto_region 33 with (go_at_call 10; refine HED.out.mono ?_; rintro _ w6 ⟨rfl, k6⟩)
                      go_wp2_with fail
                      have HF := Lib.hid (HL5.out.keep0 k6)
                      refine ⟨⟨n + 1, s', d', by go_num, by omega, HF.out, HEN.out, HN2.out⟩, ?_⟩
                      simp [intOf] <;> omega
                  · have q1 : ¬ (n : Int) ≤ (N : Int) := by omega
                    have hend := endI_end HR0.out HL.out.rel HNA.out HEI.out (.inr (by omega))
                    have HP := Lib.hid (hend.1 HH0.out)
                    have hph2 := Lib.hid (lawE_phase HL.out)
                    rw [HP.out] at hph2
                    have HAA := Lib.hid (HAL2.out _ HKL.out).out
                    clear hend HPH
                    go_upto_region 36 with fail
                    go_wp2_with fail
                    refine hph2.out.mono ?_
                    rintro _ wq ⟨rfl, rfl⟩
                    go_wp2_with fail
                    refine HAA.out.mono ?_
                    rintro _ wz ⟨rfl, kz⟩
                    go_wp2_with fail
                    go_ret
                    exact ⟨rfl, HKL.out.then kz⟩
              · rw [he] at HED
                rw [hh] at HHD
                simp only [show optI (some ke) = (ke : Int) from rfl, show max (ke : Int) 0 = (ke : Int) by omega, show decide ((0 : Int) ≤ (ke : Int)) = true by simp] at HED
                simp only [show optI none = -1 from rfl, show max (-1 : Int) 0 = 0 by decide, show decide ((0 : Int) ≤ -1) = false by decide] at HHD
                have HE0 := Lib.hid he
                have HH0 := Lib.hid hh
                clear he hh
                go_upto_region 29 with (first
                  | (go_at_call 9; refine (HHD _ (Keep.refl _ _)).out.mono ?_; rintro _ wa ⟨rfl, ka⟩)
                  | (go_at_call 10; refine (HED _ ka).out.mono ?_; rintro _ wb ⟨rfl, kb⟩))
                have HLB := Lib.hid (HL.out.keep0 (ka.then kb))
                clear ka kb HED HHD HL
                generalize wr = wo3 at *
                go_loopw [16, 17, 18] (fun v16 v17 v18 wr => ∃ (n : Nat) (s1 : EnS) (d1 : DcS), v16 = .int .i64 (n : Int) ∧ n ≤ N + 1 ∧ LawE w wr X c v2 vc b s1 d1 ∧ EndI X d d1 n ∧ d1.now ≤ 4000 + n) (fun v16 _ _ _ => N + 1 - (intOf v16).toNat)
                case atStart => exact ⟨0, s, d, rfl, Nat.zero_le _, HLB.out, HIS.out, by omega⟩
                case round =>
                  obtain ⟨n, s1, d1, rfl, hn, hL, hEI, hnw⟩ := hrel
                  have HL := Lib.hid hL
                  have HEI := Lib.hid hEI
                  have HPH := Lib.hid (lawE_phase hL)
                  have HKL := Lib.hid hL.k
                  clear hL hEI HLB HIS
                  by_cases hnN : n ≤ N
                  · have q1 : (n : Int) ≤ (N : Int) := by omega
                    by_cases hp : d1.ph = 0
                    · rw [hp] at HPH
                      have HP0 := Lib.hid hp
                      clear hp
                      go_wp2_with fail
                      refine HPH.out.mono ?_
                      rintro _ wp ⟨rfl, rfl⟩
                      have hend := endI_end HR0.out HL.out.rel HNA.out HEI.out (.inl HP0.out)
                      have HP := Lib.hid (hend.1 HH0.out)
                      have hph2 := Lib.hid (lawE_phase HL.out)
                      rw [HP.out] at hph2
                      have HAA := Lib.hid (HAL2.out _ HKL.out).out
                      clear hend HPH
                      go_upto_region 36 with fail
                      go_wp2_with fail
                      refine hph2.out.mono ?_
                      rintro _ wq ⟨rfl, rfl⟩
                      go_wp2_with fail
                      refine HAA.out.mono ?_
                      rintro _ wz ⟨rfl, kz⟩
                      go_wp2_with fail
                      go_ret
                      exact ⟨rfl, HKL.out.then kz⟩
                    · have qp : ¬ (d1.ph : Int) = 0 := by omega
                      have HTC := Lib.hid (lawE_tick HMM.out HL.out (by omega) 0)
                      rw [show decide ((0 : Nat) ≠ 0) = false from rfl] at HTC
                      have HEN := Lib.hid (endI_tick HL.out.rel hp HEI.out)
                      have HN2 : Hid ((tickD X d1 false).1.now ≤ 4000 + (n + 1)) := by show _ ≤ _; rw [tickE_now HMM.out.g HL.out.rel]; omega
                      obtain ⟨s', hs'⟩ : ∃ s', (tickE X s1 false).1 = s' := ⟨_, rfl⟩
                      obtain ⟨d', hd'⟩ : ∃ d', (tickD X d1 false).1 = d' := ⟨_, rfl⟩
                      rw [hs', hd'] at HTC
                      rw [hd'] at HEN HN2
                      clear hs' hd' hp
                      go_wp2_with fail
                      refine HPH.out.mono ?_
                      rintro _ wp ⟨rfl, rfl⟩
                      go_upto_region 32 with (go_at_call 8; refine HTC.out.mono ?_; rintro _ w5 ⟨v1, rfl, hL5⟩)
                      have HL5 := Lib.hid hL5
                      have HED := Lib.hid (lawE_edge hL5)
                      clear hL5 HTC HL HEI
                      rcases endI_edge HEN.out HH0.out with hde | hde
                      · rw [hde] at HED
                        simp only [show optI none = -1 from rfl, show max (-1 : Int) 0 = 0 by decide, show decide ((0 : Int) ≤ -1) = false by decide] at HED
                        clear hde
                        go_upto_region 33 with (go_at_call 10; refine HED.out.mono ?_; rintro _ w6 ⟨rfl, k6⟩)
                        go_wp2_with fail
                        have HF := Lib.hid (HL5.out.keep0 k6)
                        refine ⟨⟨n + 1, s', d', by go_num, by omega, HF.out, HEN.out, HN2.out⟩, ?_⟩
                        simp [intOf] <;> omega
                      · rw [hde, HE0.out] at HED
                        simp only [show optI (some ke) = (ke : Int) from rfl, show max (ke : Int) 0 = (ke : Int) by omega, show decide ((0 : Int) ≤ (ke : Int)) = true by simp] at HED
                        clear hde
                        go_upto_region 33 with (go_at_call 10; refine HED.out.mono ?_; rintro _ w6 ⟨rfl, k6⟩)
                        go_wp2_with fail
                        have HF := Lib.hid (HL5.out.keep0 k6)
                        refine ⟨⟨n + 1, s', d', by go_num, by omega, HF.out, HEN.out, HN2.out⟩, ?_⟩
                        simp [intOf] <;> omega
                  · have q1 : ¬ (n : Int) ≤ (N : Int) := by omega
                    have hend := endI_end HR0.out HL.out.rel HNA.out HEI.out (.inr (by omega))
                    have HP := Lib.hid (hend.1 HH0.out)
                    have hph2 := Lib.hid (lawE_phase HL.out)
                    rw [HP.out] at hph2
                    have HAA := Lib.hid (HAL2.out _ HKL.out).out
                    clear hend HPH
                    go_upto_region 36 with fail
                    go_wp2_with fail
                    refine hph2.out.mono ?_
                    rintro _ wq ⟨rfl, rfl⟩
                    go_wp2_with fail
                    refine HAA.out.mono ?_
                    rintro _ wz ⟨rfl, kz⟩
                    go_wp2_with fail
                    go_ret
                    exact ⟨rfl, HKL.out.then kz⟩
              · rw [he] at HED
                rw [hh] at HHD
                simp only [show optI (some ke) = (ke : Int) from rfl, show max (ke : Int) 0 = (ke : Int) by omega, show decide ((0 : Int) ≤ (ke : Int)) = true by simp] at HED
                simp only [show optI (some kh) = (kh : Int) from rfl, show max (kh : Int) 0 = (kh : Int) by omega, show decide ((0 : Int) ≤ (kh : Int)) = true by simp] at HHD
                have HE0 := Lib.hid he
                have HH0 := Lib.hid hh
                clear he hh
                go_upto_region 29 with (first
                  | (go_at_call 9; refine (HHD _ (Keep.refl _ _)).out.mono ?_; rintro _ wa ⟨rfl, ka⟩)
                  | (go_at_call 10; refine (HED _ ka).out.mono ?_; rintro _ wb ⟨rfl, kb⟩))
                have HLB := Lib.hid (HL.out.keep0 (ka.then kb))
                clear ka kb HED HHD HL
                generalize wr = wo3 at *
                go_loopw [16, 17, 18] (fun v16 v17 v18 wr => ∃ (n : Nat) (s1 : EnS) (d1 : DcS), v16 = .int .i64 (n : Int) ∧ n ≤ N + 1 ∧ LawE w wr X c v2 vc b s1 d1 ∧ EndI X d d1 n ∧ d1.now ≤ 4000 + n) (fun v16 _ _ _ => N + 1 - (intOf v16).toNat)
                case atStart => exact ⟨0, s, d, rfl, Nat.zero_le _, HLB.out, HIS.out, by omega⟩
                case round =>
                  obtain ⟨n, s1, d1, rfl, hn, hL, hEI, hnw⟩ := hrel
                  have HL := Lib.hid hL
                  have HEI := Lib.hid hEI
                  have HPH := Lib.hid (lawE_phase hL)
                  have HKL := Lib.hid hL.k
                  clear hL hEI HLB HIS
                  by_cases hnN : n ≤ N
                  · have q1 : (n : Int) ≤ (N : Int) := by omega
                    by_cases hp : d1.ph = 0
                    · rw [hp] at HPH
                      have HP0 := Lib.hid hp
                      clear hp
                      go_wp2_with fail
                      refine HPH.out.mono ?_
                      rintro _ wp ⟨rfl, rfl⟩
                      have hend := endI_end HR0.out HL.out.rel HNA.out HEI.out (.inl HP0.out)
                      have HP := Lib.hid (hend.2 (by rw [HH0.out]; simp))
                      have hhl := Lib.hid (lawE_held HL.out)
                      rw [HP.out] at hhl
                      simp only [show optI none = -1 from rfl, show max (-1 : Int) 0 = 0 by decide, show decide ((0 : Int) ≤ -1) = false by decide] at hhl
                      clear hend HPH
                      go_upto_region 37 with fail
                      go_wp2_with fail
                      refine hhl.out.mono ?_
                      rintro _ wq ⟨rfl, kq⟩
                      have HAA := Lib.hid (HAL2.out _ (HKL.out.then kq)).out
                      go_wp2_with fail
                      refine HAA.out.mono ?_
                      rintro _ wz ⟨rfl, kz⟩
                      go_wp2_with fail
                      go_ret
                      exact ⟨rfl, HKL.out.then (kq.then kz)⟩
                    · have qp : ¬ (d1.ph : Int) = 0 := by omega
                      have HTC := Lib.hid (lawE_tick HMM.out HL.out (by omega) 0)
                      rw [show decide ((0 : Nat) ≠ 0) = false from rfl] at HTC
                      have HEN := Lib.hid (endI_tick HL.out.rel hp HEI.out)
                      have HN2 : Hid ((tickD X d1 false).1.now ≤ 4000 + (n + 1)) := by show _ ≤ _; rw [tickE_now HMM.out.g HL.out.rel]; omega
                      obtain ⟨s', hs'⟩ : ∃ s', (tickE X s1 false).1 = s' := ⟨_, rfl⟩
                      obtain ⟨d', hd'⟩ : ∃ d', (tickD X d1 false).1 = d' := ⟨_, rfl⟩
                      rw [hs', hd'] at HTC
                      rw [hd'] at HEN HN2
                      clear hs' hd' hp
                      go_wp2_with fail
                      refine HPH.out.mono ?_
                      rintro _ wp ⟨rfl, rfl⟩
                      go_upto_region 32 with (go_at_call 8; refine HTC.out.mono ?_; rintro _ w5 ⟨v1, rfl, hL5⟩)
                      have HL5 := Lib.hid hL5
                      have HED := Lib.hid (lawE_edge hL5)
                      clear hL5 HTC HL HEI
                      cases hde : d'.edge with
                      | none =>
                        rw [hde] at HED
                        simp only [show optI none = -1 from rfl, show max (-1 : Int) 0 = 0 by decide, show decide ((0 : Int) ≤ -1) = false by decide] at HED
                        clear hde
                        go_upto_region 33 with (go_at_call 10; refine HED.out.mono ?_; rintro _ w6 ⟨rfl, k6⟩)
                        go_wp2_with fail
                        have HF := Lib.hid (HL5.out.keep0 k6)
                        refine ⟨⟨n + 1, s', d', by go_num, by omega, HF.out, HEN.out, HN2.out⟩, ?_⟩
                        simp [intOf] <;> omega
                      | some kn =>
                        rw [hde] at HED
                        simp only [show optI (some kn) = (kn : Int) from rfl, show max (kn : Int) 0 = (kn : Int) by omega, show decide ((0 : Int) ≤ (kn : Int)) = true by simp] at HED
                        clear hde
                        by_cases hkk : kn = ke
                        · subst hkk
                          go_upto_region 33 with (go_at_call 10; refine HED.out.mono ?_; rintro _ w6 ⟨rfl, k6⟩)
                          go_wp2_with fail
                          have HF := Lib.hid (HL5.out.keep0 k6)
                          refine ⟨⟨n + 1, s', d', by go_num, by omega, HF.out, HEN.out, HN2.out⟩, ?_⟩
                          simp [intOf] <;> omega
                        · have qk : ¬ (kn : Int) = (ke : Int) := by omega
                          go_upto_region 33 with (go_at_call 10; refine HED.out.mono ?_; rintro _ w6 ⟨rfl, k6⟩)
                          go_wp2_with fail
                          have HF := Lib.hid (HL5.out.keep0 k6)
                          refine ⟨⟨n + 1, s', d', by go_num, by omega, HF.out, HEN.out, HN2.out⟩, ?_⟩
                          simp [intOf] <;> omega
                  · have q1 : ¬ (n : Int) ≤ (N : Int) := by omega
                    have hend := endI_end HR0.out HL.out.rel HNA.out HEI.out (.inr (by omega))
                    have HP := Lib.hid (hend.2 (by rw [HH0.out]; simp))
                    have hhl := Lib.hid (lawE_held HL.out)
                    rw [HP.out] at hhl
                    simp only [show optI none = -1 from rfl, show max (-1 : Int) 0 = 0 by decide, show decide ((0 : Int) ≤ -1) = false by decide] at hhl
                    clear hend HPH
                    go_upto_region 37 with fail
                    go_wp2_with fail
                    refine hhl.out.mono ?_
                    rintro _ wq ⟨rfl, kq⟩
                    have HAA := Lib.hid (HAL2.out _ (HKL.out.then kq)).out
                    go_wp2_with fail
                    refine HAA.out.mono ?_
                    rintro _ wz ⟨rfl, kz⟩
                    go_wp2_with fail
                    go_ret
                    exact ⟨rfl, HKL.out.then (kq.then kz)⟩
end Go.Proofs.YteflgdnekflbbaaDoor
