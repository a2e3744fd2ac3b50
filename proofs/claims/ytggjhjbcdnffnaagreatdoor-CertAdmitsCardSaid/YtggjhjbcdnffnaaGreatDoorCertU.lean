/- The document: the words of an admitted image's certificate (layer 21). Condition: an image that is admitted. The document: the words of an admitted image's certificate (layer 21), the walk. Condition: an image that is admitted. CertAdmits: the law's walk. Condition: the table of math/bits lies where the program's text lays it. -/
import Derived.Test.YtggjhjbcdnffnaaGreatDoorCertR
namespace Go.Proofs.YtggjhjbcdnffnaaGreatDoor
open Go.RowKit

section
variable {P : Program} {ops : Array Oper} {rest : List Oper} {o : Oper} {a : Act} {Q : Exit → Act → World → Prop} {wr : World} {e : TypeId}
/-- 'out = append(out, x, y, ..)': out is the call's own. -/
theorem wpList_app_manyC {us : List Value} (m : Nat)
    (hgd : o.guard = none) (s x : Operand) (t : TypeId) (ho : o.op = .call { callee := .builtin .append, args := #[s, x], argTypes := #[t, t] })
    {size bytes : Nat} (hS : SliceOf P t e size bytes) {B : Nat} {v : Value} {n : Nat} {xs : List Value} (hown : wr.ownsRow B e size v n xs) (hs : a.eval s = v) (hx : a.eval x = .slice (some ⟨wr.heap.size, 0, none⟩) m m)
    (hl : us.length = m * size) (h1 : ∀ u ∈ us, u.oneCell' = true) (hB : B ≤ wr.heap.size) (hb : (n + m) * bytes ≤ 140737488355328) (h63 : n + m ≤ maxLen)
    (h : ∀ v' w', w'.ownsRow B e size v' (n + m) (xs ++ us) → Keep v.ownBlock.toList wr w' → (v'.ownBlock = v.ownBlock ∨ v'.ownBlock = some (wr.heap.size + 1)) → wpList P ops Q rest (a.put o.dst v') w') :
    wpList P ops Q (o :: rest) a (wr.alloc (.cells us.toArray e)) := by
  obtain ⟨ht, ⟨i, z, hi, hz, hsz, hby, hzs⟩, hpos⟩ := hS.parts
  obtain ⟨v', w', hr, h2, h3, _, h5⟩ := run_append_own_at (P := P) (wr.alloc (.cells us.toArray e)) B t o.type e i z size bytes ht hi hz hsz hby hzs hpos v n xs (hown.alloc _) ⟨wr.heap.size, 0, none⟩ m m us hl
    (by
      intro j u hu
      rw [add_of_block]
      show World.cell? _ _ = _
      simp only [World.cell?, heap_alloc_new]
      simpa using hu) h1 h63 hb (by simp; omega)
  refine wpList_plain hgd fun K hK => ?_
  unfold Oper.wp execOp
  simp only [ho, resolve, invoke, builtin, Sem.run_bind, Sem.run_pure, Result.andThen_ok, List.map_toArray, List.map_cons, List.map_nil, hs, hx, hr]
  refine hK _ _ (h v' w' h2 ?_ (by simpa using h5))
  have hk := Keep.of_grown h3
  exact ((Keep.refl _ wr).alloc _).trans hk (fun x hx _ => hx)
end
theorem adm_ok {x : Img} (h : (admM x).2.2 = 0) : (chkImg x).2 = 0 ∧ (∀ i, i < x.modes.length → modeFit x i = true) ∧ admM x = (fullCrt x, 0, 0) := by
  by_cases hc : (chkImg x).2 = 0
  · refine ⟨hc, ?_⟩
    cases hm : firstNot (modeFit x) x.modes.length with
    | some i => rw [admM_mode hc hm] at h; exact absurd h (show ¬ (180 : Int) = 0 by decide)
    | none =>
      refine ⟨firstNot_of_none hm, ?_⟩
      cases he : firstNot (fun i => (edgeM x i).2) x.edges.length with
      | some i => rw [admM_edge hc hm he] at h; exact absurd h (show ¬ (190 : Int) = 0 by decide)
      | none => exact admM_full hc hm he
  · rw [admM_bad hc] at h; exact absurd h hc
/-- The words of the first m modes. -/
def wM (x : Img) (m : Nat) : List Int := (x.modes.length : Int) :: (List.range m).flatMap (fun i => rowsW (modeRows x i))
theorem wM_zero (x : Img) : wM x 0 = [(x.modes.length : Int)] := rfl
theorem wM_succ (x : Img) (m : Nat) : wM x (m + 1) = wM x m ++ rowsW (modeRows x m) := by
  unfold wM
  rw [List.range_succ, List.flatMap_append]
  simp
theorem rowsW_len (l : List RowM) : (rowsW l).length = 1 + 3 * l.length := by
  unfold rowsW
  rw [List.length_cons]
  induction l with
  | nil => rfl
  | cons r l ih =>
    rw [List.flatMap_cons, List.length_append, List.length_cons]
    have : (rowT r).length = 3 := rfl
    omega
theorem wM_le (x : Img) : ∀ m, (wM x m).length ≤ 1 + 97 * m
  | 0 => by simp [wM]
  | m + 1 => by
    have h1 := wM_le x m
    have h2 := modeRows_len x m
    rw [wM_succ, List.length_append, rowsW_len]
    omega
/-- All modes' words, and those of the first j edges. -/
def wE (x : Img) (j : Nat) : List Int := wM x x.modes.length ++ ((x.edges.length : Int) :: (List.range j).flatMap (fun i => spnW (edgeM x i).1))
theorem wE_zero (x : Img) : wE x 0 = wM x x.modes.length ++ [(x.edges.length : Int)] := rfl
theorem wE_succ (x : Img) (j : Nat) : wE x (j + 1) = wE x j ++ spnW (edgeM x j).1 := by
  unfold wE
  rw [List.range_succ, List.flatMap_append]
  simp
theorem wE_le (x : Img) : ∀ j, (wE x j).length ≤ 2 + 97 * x.modes.length + 2 * j
  | 0 => by
    have := wM_le x x.modes.length
    rw [wE_zero, List.length_append]
    simp only [List.length_cons, List.length_nil]
    omega
  | j + 1 => by
    have h1 := wE_le x j
    have : (spnW (edgeM x j).1).length = 2 := rfl
    rw [wE_succ, List.length_append]
    omega
theorem wE_full (x : Img) : wE x x.edges.length = wordsC (fullCrt x) := by
  unfold wE wM wordsC fullCrt
  simp [List.flatMap_map]
theorem rowsW_snoc (l : List RowM) (r : RowM) : rowsW (l ++ [r]) = ((l.length : Int) + 1) :: (l.flatMap rowT ++ rowT r) := by
  unfold rowsW
  simp
theorem wordV_set (pre : List Int) (c d : Int) (t : List Int) : (wordV (pre ++ c :: t)).set pre.length (u32v d) = wordV (pre ++ d :: t) := by
  unfold wordV
  simp
theorem wordV_at (pre : List Int) (c : Int) (t : List Int) : (wordV (pre ++ c :: t))[pre.length]? = some (u32v c) := by
  unfold wordV
  simp
theorem u32v_small {z : Int} (h0 : 0 ≤ z) (h1 : z < 4294967296) : u32v z = .int .u32 z := by
  unfold u32v
  congr 1
  omega
end Go.Proofs.YtggjhjbcdnffnaaGreatDoor

namespace Go.Proofs.YtggjhjbcdnffnaaGreatDoor
open Go.RowKit

set_option maxRecDepth 100000 in
set_option maxHeartbeats 4000000 in
theorem rwords_any (v : ImgV) (x : Img) (w : World) (h : ImgAt w v x) (ha : (admM x).2.2 = 0) :
    Calls Tryz.prog 12 #[.agg (imgCells v x).toArray] w (RetWords w (wordsC (fullCrt x))) := by
  obtain ⟨hc, hfit, _⟩ := adm_ok ha
  have hx := small_of hc
  have hn := hx.n
  have hR := right_of hc
  have hM8 := hR.nm.2
  have hE24 := hR.ne
  obtain ⟨W0, hW0⟩ : ∃ W0, w.alloc (.cells (imgCells v x).toArray 26) = W0 := ⟨_, rfl⟩
  have b0 : Blk W0 w.heap.size 26 (imgCells v x).toArray := by rw [← hW0]; exact img_box w v x
  have K0 : Keep [] w W0 := by rw [← hW0]; exact (Keep.refl [] w).alloc _
  have hz0 : w.heap.size ≤ W0.heap.size := K0.size
  have HIC : Hid ((imgCells v x).length = 4) := show _ = _ from rfl
  have HC0 : Hid (∀ w', Keep [] W0 w' → CellsAt w' w.heap.size 0 (imgCells v x)) := fun w' hk => (b0.keep0 hk).cellsAt
  have HI : Hid (∀ w', Keep [] W0 w' → w'.cell? ⟨w.heap.size, 1, none⟩ = some (.slice v.ta x.tasks.length v.tc) ∧ w'.cell? ⟨w.heap.size, 2, none⟩ = some (.slice v.ma x.modes.length v.mc) ∧ w'.cell? ⟨w.heap.size, 3, none⟩ = some (.slice v.ea x.edges.length v.ec)) :=
    fun w' hk => ⟨img_c1 (b0.keep0 hk), img_c2 (b0.keep0 hk), img_c3 (b0.keep0 hk)⟩
  have HMd : Hid (∀ m, (hm : m < x.modes.length) → ∃ bm om, v.ma = some ⟨bm, om, none⟩ ∧ ∀ w', Keep [] W0 w' → w'.cell? ⟨bm, om + m * 2, none⟩ = some (.int .u32 (x.modes[m].set : Int))) := fun m hm => by
    obtain ⟨bm, om, hM, hbm, hcm⟩ := h.mode (by omega)
    obtain ⟨_, _, hm1, _⟩ := hcm m hm
    refine ⟨bm, om, hM, fun w' k => ?_⟩
    have := (hm1.keep0 (K0.then k) hbm) 0 _ rfl
    rwa [Nat.add_zero] at this
  have HRo : Hid (∀ m, (hm : m < x.modes.length) → modeRows x m = rowsR x x.modes[m].set x.tasks.length) := fun m hm => (fit_same hc h.ok m hm).2 (hfit m hm)
  have HSt : Hid (∀ m, (hm : m < x.modes.length) → x.modes[m].set < 4294967296) := fun m hm => h.ok.set _ (List.getElem_mem hm)
  have HRs := fun (s : Nat) (hs : s < 4294967296) (j : Nat) (hj : j < x.tasks.length) w' (k : Keep [] W0 w') => Lib.hid (rresp_any v x s s s j w' (h.keep0 (K0.then k)) hs hs hs hx hj)
  have HBl := fun (s : Nat) (hs : s < 4294967296) (j : Nat) (hj : j < x.tasks.length) w' (k : Keep [] W0 w') => Lib.hid (rblock_any v x s s j w' (h.keep0 (K0.then k)) hs hs hj hx)
  have HEd := fun (i : Nat) (hi : i < x.edges.length) w' (k : Keep [] W0 w') => Lib.hid (redgeM_any v x i w' (h.keep0 (K0.then k)) hc hi)
  have HK0 := Lib.hid K0
  have HW := Lib.hid hW0
  have HN := Lib.hid hn
  have HM8 := Lib.hid hM8
  have HE24 := Lib.hid hE24
  have HZ0 := Lib.hid hz0
  obtain ⟨c1, c2, c3⟩ := HI.out W0 (Keep.refl _ _)
  clear h K0 hW0 b0 hc hfit hx hn hR hM8 hE24 ha hz0 c1 c3
  generalize imgCells v x = il at *
  have o1 : (W0.alloc (.cells #[.int .u32 ((x.modes.length : Int) % 4294967296)] 51)).ownsRow W0.heap.size 51 1 (.slice (some ⟨W0.heap.size, 0, none⟩) 1 1) 1 (wordV (wM x 0)) :=
    World.ownsRow_lit (base := W0.heap.size) (e := 51) (size := 1) W0 #[u32v (x.modes.length : Int)] 1 (Nat.le_refl _) (by decide) rfl
  obtain ⟨W1, hW1⟩ : ∃ W1, W0.alloc (.cells #[.int .u32 ((x.modes.length : Int) % 4294967296)] 51) = W1 := ⟨_, rfl⟩
  have K1 : Keep [] W0 W1 := by rw [← hW1]; exact (Keep.refl [] W0).alloc _
  rw [hW1] at o1
  have HW1 := Lib.hid hW1
  clear hW1
  go_enter Tryz.func12, Tryz.ntmps12
  go_wp2_with (first | rw [HW.out] | rw [HW1.out])
  go_loopw [3, 4] (fun lv vi wr => ∃ m : Nat, m ≤ x.modes.length ∧ vi = .int .i64 (m : Int) ∧ wr.ownsRow W0.heap.size 51 1 lv (wM x m).length (wordV (wM x m)) ∧ Keep [] W0 wr) (fun _ vi _ => x.modes.length - (intOf vi).toNat)
  case atStart => exact ⟨0, Nat.zero_le _, rfl, o1, K1⟩
  case round =>
    clear o1 K1 c2
    obtain ⟨m, hm, rfl, hrow, hK⟩ := hrel
    obtain ⟨c1, c2, c3⟩ := HI.out wr hK
    have hpl := wM_le x m
    have hM8 := HM8.out
    have hB : W0.heap.size ≤ wr.heap.size := hK.size
    obtain ⟨A, cp, rfl⟩ := own_shape hrow
    by_cases hlt : m < x.modes.length
    · clear c1 c3
      obtain ⟨bm, om, hM, hcell⟩ := HMd.out m hlt
      have cs := hcell wr hK
      have hs := HSt.out m hlt
      rw [hM] at c2
      have hsuc := wM_succ x m
      rw [HRo.out m hlt] at hsuc
      have HHs := fun (i : Int) w' => Lib.hid (has10_any x.modes[m].set i w' hs)
      have HRm := HRs x.modes[m].set hs
      have HBm := HBl x.modes[m].set hs
      have HSU := Lib.hid hsuc
      have p0 : (0 : Int) ≤ (m : Int) := by omega
      have p1 : (m : Int) < (x.modes.length : Int) := by omega
      have p2 : decide ((m : Int) < (x.modes.length : Int)) = true := decide_eq_true p1
      have HPL := Lib.hid hpl
      clear hcell HRs HBl HMd HSt HRo hsuc hs hM
      generalize x.modes[m].set = s at *
      generalize wM x m = pre at *
      generalize hpn : pre.length = P at *
      have HPN := Lib.hid hpn
      clear hpn
      go_wp2_with (at_builtin; refine wpList_append_one rfl (.tmp 34) (.tmp 35) 40 rfl slice_u32W hrow rfl rfl (us := [.int .u32 0]) rfl (by simp [Value.oneCell']) hB (by omega) (by unfold maxLen; omega) ?_; intro v' w6 hown hk6 hat)
      have K6 : Keep [] W0 w6 := hK.trans hk6 (fun y hy hl => by have := (hrow.lt y (by simpa using hy)).1; omega)
      have st : w6.ownsRow W0.heap.size 51 1 v' (pre ++ rowsW (rowsR x s 0)).length (wordV (pre ++ rowsW (rowsR x s 0))) := by
        have e1 : rowsR x s 0 = [] := rfl
        have e2 : rowsW [] = [0] := rfl
        rw [e1, e2, List.length_append, HPN.out, wordV_snoc]
        exact hown
      have HK6 := Lib.hid K6
      obtain ⟨c1, _, _⟩ := HI.out w6 K6
      clear hown hk6 hat hrow hK hB c2 cs K6
      go_loopw [3, 7] (fun lv vi wr => ∃ j : Nat, j ≤ x.tasks.length ∧ vi = .int .i64 (j : Int) ∧ wr.ownsRow W0.heap.size 51 1 lv (pre ++ rowsW (rowsR x s j)).length (wordV (pre ++ rowsW (rowsR x s j))) ∧ Keep [] W0 wr) (fun _ vi _ => x.tasks.length - (intOf vi).toNat)
      case atStart => exact ⟨0, Nat.zero_le _, rfl, st, HK6.out⟩
      case round =>
        clear st c1
        obtain ⟨j, hj, rfl, hrow, hK⟩ := hrel
        obtain ⟨c1, _, _⟩ := HI.out wr hK
        have hn := HN.out
        have hB : W0.heap.size ≤ wr.heap.size := hK.size
        by_cases hlt2 : j < x.tasks.length
        · have q0 : (0 : Int) ≤ (j : Int) := by omega
          have q1 : (j : Int) < (x.tasks.length : Int) := by omega
          have q2 : decide ((j : Int) < (x.tasks.length : Int)) = true := decide_eq_true q1
          have HHj := HHs (j : Int)
          have hst := rowsR_succ x s j
          rw [has10_nat (by omega)] at HHj
          have hlen : (rowsR x s j).length ≤ j := by
            unfold rowsR lowL
            rw [List.length_map]
            have := List.length_filter_le (fun i => s.testBit i) (List.range j)
            simpa using this
          have HRj := HRm j hlt2 wr hK
          have HBj := HBm j hlt2
          rw [numRes_eq] at HRj
          have hrr : rrow x s j = ⟨(j : Int), rblock x.tasks s s j, (rrespM x s s s j).getD 0⟩ := rfl
          rw [hrr] at hst
          have HST := Lib.hid hst
          have hcA := Lib.hid (HC0.out wr hK)
          clear HHs HRm HBm hst hrr
          generalize (rrespM x s s s j).getD 0 = rs at *
          generalize (rrespM x s s s j).isSome = rb at *
          generalize rblock x.tasks s s j = bl at *
          generalize rowsR x s j = rows at *
          cases hb : s.testBit j with
          | false =>
            rw [hb] at HHj
            have HX2 : Hid (rowsR x s (j + 1) = rows) := by show _ = _; rw [HST.out, hb]; simp
            have HRW := Lib.hid hrow
            have HKR := Lib.hid hK
            clear HST hrow hK HBj HRj
            go_wp2_with (refine (HHj _).out.mono ?_; rintro e w3 ⟨rfl, rfl⟩)
            go_roundw
            case rel => exact ⟨j + 1, by omega, by go_num, by rw [HX2.out]; exact HRW.out, HKR.out⟩
            case measure => simp [intOf] <;> omega
          | true =>
            rw [hb] at HHj
            have HX2 : Hid (rowsR x s (j + 1) = rows ++ [⟨(j : Int), bl, rs⟩]) := by show _ = _; rw [HST.out, hb]; rfl
            have HRW := Lib.hid hrow
            have HKR := Lib.hid hK
            clear HST hrow hK
            go_wp2_with (first
              | (refine (HHj _).out.mono ?_; rintro e w3 ⟨rfl, rfl⟩)
              | (refine wpList_load_agg rfl 26 (.tmp 1) rfl rfl (cs := il) (by rw [HIC.out]; exact agg_image) hcA.out ?_))
            refine HRj.out.mono ?_
            rintro e w4 ⟨rfl, k4⟩
            have hcB := Lib.hid (HC0.out w4 (HKR.out.then k4))
            have HBj4 := HBj w4 (HKR.out.then k4)
            clear HRj HBj hcA
            have hql : (pre ++ rowsW rows).length = P + 1 + 3 * rows.length := by rw [List.length_append, rowsW_len, HPN.out]; omega
            obtain ⟨Q, hQ⟩ : ∃ Q, P + 1 + 3 * rows.length = Q := ⟨_, rfl⟩
            have HRQ := HRW.out
            rw [hql, hQ] at HRQ
            replace HRW := Lib.hid HRQ
            have HQ := Lib.hid hQ
            clear HRQ hql hQ
            obtain ⟨A, cp, rfl⟩ := own_shape HRW.out
            have HK4 := Lib.hid k4
            clear k4
            go_wp2_with (refine wpList_load_agg rfl 26 (.tmp 1) rfl rfl (cs := il) (by rw [HIC.out]; exact agg_image) hcB.out ?_)
            refine HBj4.out.mono ?_
            rintro e w5 ⟨rfl, k5⟩
            have hrow5 := own_keep0 HRW.out (HK4.out.then k5)
            have K5 : Keep [] W0 w5 := HKR.out.then (HK4.out.then k5)
            have hB5 : W0.heap.size ≤ w5.heap.size := K5.size
            clear k5 hcB HBj4
            go_wp2_with (refine stop_at 68 rfl ?_)
            constructor
            have hpl := HPL.out
            have hQ := HQ.out
            refine wpList_app_manyC 3 rfl (.tmp 56) (.tmp 67) 40 rfl slice_u32W hrow5 rfl rfl (us := [.int .u32 (j : Int), u32v bl, u32v rs]) rfl (by simp [u32v, Value.oneCell']) hB5 (by omega) (by unfold maxLen; omega) ?_
            intro v' w7 hown hk7 hat
            have K7 : Keep [] W0 w7 := K5.trans hk7 (fun y hy hl => by have := (hrow5.lt y (by simpa using hy)).1; omega)
            obtain ⟨A', c', rfl⟩ := own_shape hown
            obtain ⟨g, cap, hv, _, hgl⟩ := hown.form (by omega)
            have e1 : A' = some ⟨g, 0, none⟩ ∧ c' = cap := by
              injection hv with h1 h2 h3
              exact ⟨h1, h3⟩
            obtain ⟨rfl, rfl⟩ := e1
            have hlow := (hown.lt g rfl).1
            rw [← u32v_small (z := (j : Int)) (by omega) (by omega)] at hown
            have hsp : wordV (pre ++ rowsW rows) ++ [u32v (j : Int), u32v bl, u32v rs] = wordV (pre ++ (rows.length : Int) :: (rows.flatMap rowT ++ [(j : Int), bl, rs])) := by
              unfold rowsW wordV
              simp
            rw [hsp] at hown
            have hat1 := wordV_at pre (rows.length : Int) (rows.flatMap rowT ++ [(j : Int), bl, rs])
            rw [HPN.out, u32v_small (by omega) (by omega)] at hat1
            have cc := (hown.cellAt P (by omega)).trans hat1
            have cz := hown.frozenAt P
            have cst := (hown.stored P (.int .u32 ((rows.length : Int) + 1))).1
            have hse := wordV_set pre (rows.length : Int) ((rows.length : Int) + 1) (rows.flatMap rowT ++ [(j : Int), bl, rs])
            rw [HPN.out, u32v_small (by omega) (by omega)] at hse
            rw [hse] at cst
            have kst : Keep [] W0 (w7.setCell ⟨g, P, none⟩ (.int .u32 ((rows.length : Int) + 1))) := K7.trans (keep_set w7 g P _) (fun y hy hlt => by simp at hy; omega)
            change w7.cell? ⟨g, P, none⟩ = some (.int .u32 (rows.length : Int)) at cc
            have hfin : pre ++ ((rows.length : Int) + 1) :: (rows.flatMap rowT ++ [(j : Int), bl, rs]) = pre ++ rowsW (rowsR x s (j + 1)) := by rw [HX2.out, rowsW_snoc]; rfl
            have hfl : Q + 3 = (pre ++ rowsW (rowsR x s (j + 1))).length := by rw [HX2.out, List.length_append, rowsW_len, HPN.out, List.length_append]; simp only [List.length_cons, List.length_nil]; omega
            rw [hfin] at cst
            have cst2 : (w7.setCell ⟨g, P, none⟩ (.int .u32 ((rows.length : Int) + 1))).ownsRow W0.heap.size 51 1 (.slice (some ⟨g, 0, none⟩) (Q + 3) c') (pre ++ rowsW (rowsR x s (j + 1))).length (wordV (pre ++ rowsW (rowsR x s (j + 1)))) := by rw [← hfl]; exact cst
            have HCS := Lib.hid (And.intro cst2 kst)
            have hwr : ((rows.length : Int) + 1) % 4294967296 = (rows.length : Int) + 1 := by omega
            have hi0 : (0 : Int) ≤ (P : Int) := by omega
            have hi1 : (P : Int) < ((Q + 3 : Nat) : Int) := by omega
            clear hQ hpl hown hat1 hse hsp cst cst2 kst hfin hfl hk7 hat K7 hrow5 K5 HKR HRW
            generalize Q + 3 = N at *
            generalize rows.length = R at *
            go_wp2
            go_roundw
            case rel => exact ⟨j + 1, by omega, by go_num, HCS.out.1, HCS.out.2⟩
            case measure => simp [intOf] <;> omega
        · obtain rfl : j = x.tasks.length := by omega
          have q2 : decide ((x.tasks.length : Int) < (x.tasks.length : Int)) = false := by simp
          have hfin : pre ++ rowsW (rowsR x s x.tasks.length) = wM x (m + 1) := HSU.out.symm
          rw [hfin] at hrow
          have HRW := Lib.hid hrow
          have HKR := Lib.hid hK
          clear hrow hK hfin HHs HRm HBm
          go_wp2
          go_roundw
          case rel => exact ⟨m + 1, by omega, by go_num, HRW.out, HKR.out⟩
          case measure => simp [intOf] <;> omega
    · obtain rfl : m = x.modes.length := by omega
      clear c1 HMd HRo HSt HRs HBl
      have p2 : decide ((x.modes.length : Int) < (x.modes.length : Int)) = false := by simp
      have hz := wE_zero x
      have HFU : Hid (wE x x.edges.length = wordsC (fullCrt x)) := wE_full x
      generalize hpre : wM x x.modes.length = pre at *
      have HPR := Lib.hid hpre
      clear hpre
      go_wp2_with (at_builtin; refine wpList_append_one rfl (.tmp 75) (.tmp 80) 40 rfl slice_u32W hrow rfl rfl (us := [u32v (x.edges.length : Int)]) rfl (by simp [u32v, Value.oneCell']) hB (by omega) (by unfold maxLen; omega) ?_; intro v' w6 hown hk6 hat)
      have K6 : Keep [] W0 w6 := hK.trans hk6 (fun y hy hl => by have := (hrow.lt y (by simpa using hy)).1; omega)
      have st : w6.ownsRow W0.heap.size 51 1 v' (wE x 0).length (wordV (wE x 0)) := by
        rw [hz, wordV_snoc, List.length_append]
        exact hown
      have HK6 := Lib.hid K6
      obtain ⟨_, _, c3⟩ := HI.out w6 K6
      clear hown hk6 hat hrow hK hB c2 K6 hz
      go_loopw [3, 10] (fun lv vi wr => ∃ j : Nat, j ≤ x.edges.length ∧ vi = .int .i64 (j : Int) ∧ wr.ownsRow W0.heap.size 51 1 lv (wE x j).length (wordV (wE x j)) ∧ Keep [] W0 wr) (fun _ vi _ => x.edges.length - (intOf vi).toNat)
      case atStart => exact ⟨0, Nat.zero_le _, rfl, st, HK6.out⟩
      case round =>
        clear st c3
        obtain ⟨j, hj, rfl, hrow, hK⟩ := hrel
        obtain ⟨_, _, c3⟩ := HI.out wr hK
        have hE24 := HE24.out
        have hM8 := HM8.out
        by_cases hlt2 : j < x.edges.length
        · have q0 : (0 : Int) ≤ (j : Int) := by omega
          have q1 : (j : Int) < (x.edges.length : Int) := by omega
          have q2 : decide ((j : Int) < (x.edges.length : Int)) = true := decide_eq_true q1
          have HEj := HEd j hlt2 wr hK
          have hcA := Lib.hid (HC0.out wr hK)
          have hst := wE_succ x j
          have hle := wE_le x j
          cases hem : edgeM x j with
          | mk ab sb =>
          obtain ⟨ra, rb⟩ := ab
          rw [hem] at HEj hst
          have hst : wE x (j + 1) = wE x j ++ [ra, rb] := hst
          simp only [edgeRes3] at HEj
          have HST := Lib.hid hst
          have HRW := Lib.hid hrow
          have HKR := Lib.hid hK
          clear HEd hst hem hrow hK
          generalize wE x j = q at *
          go_wp2_with (refine wpList_load_agg rfl 26 (.tmp 1) rfl rfl (cs := il) (by rw [HIC.out]; exact agg_image) hcA.out ?_)
          refine HEj.out.mono ?_
          rintro e w5 ⟨rfl, k5⟩
          obtain ⟨A, cp, rfl⟩ := own_shape HRW.out
          have hrow5 := own_keep0 HRW.out k5
          have K5 : Keep [] W0 w5 := HKR.out.then k5
          have hB5 : W0.heap.size ≤ w5.heap.size := K5.size
          clear k5 hcA HEj
          go_wp2_with (refine stop_at 102 rfl ?_)
          constructor
          refine wpList_app_manyC 2 rfl (.tmp 96) (.tmp 101) 40 rfl slice_u32W hrow5 rfl rfl (us := [u32v ra, u32v rb]) rfl (by simp [u32v, Value.oneCell']) hB5 (by omega) (by unfold maxLen; omega) ?_
          intro v' w7 hown hk7 hat
          have K7 := Lib.hid (K5.trans hk7 (fun y hy hl => by have := (hrow5.lt y (by simpa using hy)).1; omega) : Keep [] W0 w7)
          have HO := Lib.hid hown
          clear hown hk7 hat hrow5 K5
          go_wp2
          go_roundw
          case rel => exact ⟨j + 1, by omega, by go_num, by rw [HST.out, wordV_append, List.length_append]; exact HO.out, K7.out⟩
          case measure => simp [intOf] <;> omega
        · obtain rfl : j = x.edges.length := by omega
          have q2 : decide ((x.edges.length : Int) < (x.edges.length : Int)) = false := by simp
          rw [HFU.out] at hrow
          obtain ⟨A, cp, rfl⟩ := own_shape hrow
          have HRW := Lib.hid hrow
          have HKR := Lib.hid hK
          clear hrow hK HEd
          go_wp2
          go_ret
          exact ⟨A, cp, rfl, own_base HRW.out HZ0.out, HK0.out.then HKR.out⟩
end Go.Proofs.YtggjhjbcdnffnaaGreatDoor

namespace Go.Proofs.YtggjhjbcdnffnaaGreatDoor
open Go.RowKit
attribute [local go_sem] Oper.semAt_some

set_option maxRecDepth 100000 in
set_option maxHeartbeats 1000000 in
theorem row21_any (A B : Option Addr) (c d : Nat) (la lb : List Int) (w : World) (hA : Reads w 1 A la.length (uwc la)) (hB : Reads w 1 B lb.length (uwc lb)) (ha : la.length ≤ 100000) (hb : lb.length ≤ 100000) :
    Calls Tryz.prog 10 #[.slice A la.length c, .slice B lb.length d] w fun e w' => e = .returned (.bool (decide (la = lb))) ∧ Keep [] w w' := by
  by_cases hl : la.length = lb.length
  · have hln : ((la.length : Int) != (lb.length : Int)) = false := by simp; omega
    have HA := Lib.hid hA
    have HB := Lib.hid hB
    have HL := Lib.hid hl
    clear hA hB
    go_enter Tryz.func10, Tryz.ntmps10
    clear hl
    go_wp2
    clear hln
    go_loopw [5] (fun vi wr => ∃ k : Nat, k ≤ la.length ∧ vi = .int .i64 (k : Int) ∧ la.take k = lb.take k ∧ Keep [] w wr) (fun vi _ => la.length - (intOf vi).toNat)
    case atStart => exact ⟨0, Nat.zero_le _, rfl, rfl, Keep.refl _ _⟩
    case round =>
      obtain ⟨k, hk, rfl, ht, hK⟩ := hrel
      by_cases hlt : k < la.length
      · have hl2 := HL.out
        have hlt2 : k < lb.length := by omega
        obtain ⟨b1, o1, hA1, hb1, hc1⟩ := uwc_at (HA.out.keep0 hK) (by omega)
        obtain ⟨b2, o2, hB1, hb2, hc2⟩ := uwc_at (HB.out.keep0 hK) (by omega)
        have q1 := hc1 k hlt
        have q2 := hc2 k hlt2
        have HT1 : Hid (la.take (k + 1) = la.take k ++ [la[k]]) := by show _ = _; rw [List.take_succ_eq_append_getElem hlt]
        have HT2 : Hid (lb.take (k + 1) = lb.take k ++ [lb[k]]) := by show _ = _; rw [List.take_succ_eq_append_getElem hlt2]
        have HNE : Hid (la[k] ≠ lb[k] → la ≠ lb) := fun h e => h (by subst e; rfl)
        have hk0 : (0 : Int) ≤ (k : Int) := by omega
        have hk1 : (k : Int) < (la.length : Int) := by omega
        have hk2 : (k : Int) < (lb.length : Int) := by omega
        have hF : ∀ w', Keep [] wr w' → w'.cell? ⟨b1, o1 + k, none⟩ = some (.int .u32 la[k]) ∧ w'.cell? ⟨b2, o2 + k, none⟩ = some (.int .u32 lb[k]) := fun w' hk' => ⟨(hk'.cell (p := ⟨b1, o1 + k, none⟩) hb1 (by simp)).trans q1, (hk'.cell (p := ⟨b2, o2 + k, none⟩) hb2 (by simp)).trans q2⟩
        rw [hA1, hB1] at *
        clear hc1 hc2 q1 q2 hl2
        generalize la[k] = ya at *
        generalize lb[k] = yb at *
        go_wp2
        refine wp_region_flow (Keep [] wr) rfl (by kernel_rfl) (Keep.refl _ _).drew ?_
        repeat (refine fl_val (v := ?_) (by rfl) ?_ ?_; rotate_left; (intro w' hS; obtain ⟨f1,f2⟩ := hF w' hS; go_simp; with_reducible rfl); simp only [Act.put, List.setIfInBounds_toArray, List.set_cons_zero, List.set_cons_succ])
        refine fl_nil ?_
        intro w' hS
        clear hF
        by_cases he : ya = yb
        · have hn : (ya != yb) = false := by simpa using he
          go_wp2
          go_roundw
          case rel => exact ⟨k + 1, by omega, by go_num, by rw [HT1.out, HT2.out, ht, he], hK.then hS⟩
          case measure => simp [intOf] <;> omega
        · have hn : (ya != yb) = true := by simpa using he
          have HD : Hid (decide (la = lb) = false) := by show _ = _; exact decide_eq_false (HNE.out he)
          clear he
          go_wp2
          go_ret
          exact ⟨by rw [HD.out]; rfl, hK.then hS⟩
      · obtain rfl : k = la.length := by omega
        have HD : Hid (decide (la = lb) = true) := by
          show _ = _
          rw [List.take_length, List.take_of_length_le (by have := HL.out; omega)] at ht
          exact decide_eq_true ht
        clear ht
        go_wp2
        go_ret
        exact ⟨by rw [HD.out]; rfl, hK⟩
  · have hln : ((la.length : Int) != (lb.length : Int)) = true := by simp; omega
    have HD : Hid (decide (la = lb) = false) := by show _ = _; exact decide_eq_false (fun e => hl (by rw [e]))
    clear hl hA hB
    go_enter Tryz.func10, Tryz.ntmps10
    go_wp2
    go_ret
    exact ⟨by rw [HD.out]; rfl, Keep.refl _ _⟩
theorem row21_same (A B : Option Addr) (c d n m : Nat) (l : List Int) (w : World) (hn : l.length = n) (hm : l.length = m) (hA : Reads w 1 A n (wordV l)) (hB : Reads w 1 B m (wordV l)) (ha : n ≤ 100000) :
    Calls Tryz.prog 10 #[.slice A n c, .slice B m d] w fun e w' => e = .returned (.bool true) ∧ Keep [] w w' := by
  subst hn hm
  rw [wordV_uwc, ← modW_len l] at hA hB
  have := row21_any A B c d (modW l) (modW l) w hA hB (by rw [modW_len]; exact ha) (by rw [modW_len]; exact ha)
  rw [modW_len] at this
  exact this.mono (fun e w' h => ⟨by rw [h.1, decide_eq_true rfl], h.2⟩)
theorem adm_no {x : Img} (h : (admM x).2.2 ≠ 0) : (admM x).1 = noCrt := by
  by_cases hc : (chkImg x).2 = 0
  · cases hm : firstNot (modeFit x) x.modes.length with
    | some i => rw [admM_mode hc hm]
    | none =>
      cases he : firstNot (fun i => (edgeM x i).2) x.edges.length with
      | some i => rw [admM_edge hc hm he]
      | none => rw [admM_full hc hm he] at h; exact absurd rfl h
  · rw [admM_bad hc]
set_option maxRecDepth 100000 in
set_option maxHeartbeats 4000000 in
theorem admits_any (v : ImgV) (x : Img) (w : World) (hTb : Tab w) (h : ImgAt w v x) :
    Calls Tryz.prog 3 #[.agg (imgCells v x).toArray] w fun e w' => e = .returned (.bool true) ∧ Keep [] w w' := by
  obtain ⟨W0, hW0⟩ : ∃ W0, w.alloc (.cells (imgCells v x).toArray 26) = W0 := ⟨_, rfl⟩
  have b0 : Blk W0 w.heap.size 26 (imgCells v x).toArray := by rw [← hW0]; exact img_box w v x
  have K0 : Keep [] w W0 := by rw [← hW0]; exact (Keep.refl [] w).alloc _
  have HIC : Hid ((imgCells v x).length = 4) := show _ = _ from rfl
  have HCI := fun w' (k : Keep [] W0 w') => Lib.hid ((b0.keep0 k).cellsAt)
  have HF := Lib.hid (few21_any v x W0 (h.keep0 K0))
  have HAd := fun w' (k : Keep [] W0 w') => Lib.hid (admit_any v x w' (hTb.keep0 (K0.then k)) (h.keep0 (K0.then k)))
  have HRA := fun w' (k : Keep [] W0 w') => Lib.hid (radmit_any v x w' (h.keep0 (K0.then k)))
  have HRW := fun (ha : (admM x).2.2 = 0) w' (k : Keep [] W0 w') => Lib.hid (rwords_any v x w' (h.keep0 (K0.then k)) ha)
  have HHo := fun vc c w' (k : Keep [] W0 w') hc => Lib.hid (holds_any v x vc c w' (hTb.keep0 (K0.then k)) (h.keep0 (K0.then k)) hc)
  have HAl := fun w' (k : Keep [] W0 w') => Lib.hid (alive21 w' (hTb.keep0 (K0.then k)))
  have HNo : Hid ((admM x).2.2 ≠ 0 → (admM x).1 = noCrt) := adm_no
  have HOk : Hid ((admM x).2.2 = 0 → (admM x).1 = fullCrt x) := fun h => by rw [(adm_ok h).2.2]
  have HHB := fun c => Lib.hid (show holdsB c x = (((admM x).2.2 == 0) && eqW (wordsC c) (wordsC (admM x).1)) from rfl)
  have HK0 := Lib.hid K0
  have HW := Lib.hid hW0
  clear h K0 hW0 b0 hTb
  generalize imgCells v x = il at *
  cases hf : few21 x with
  | false =>
    rw [hf] at HF
    clear HAd HRA HRW HHo HAl HHB HNo HOk
    go_enter Tryz.func3, Tryz.ntmps3
    go_wp2_with (first
      | rw [HW.out]
      | (refine wpList_load_agg rfl 26 (.tmp 1) rfl rfl (cs := il) (by rw [HIC.out]; exact agg_image) (HCI _ (Keep.refl _ _)).out ?_))
    refine HF.out.mono ?_
    rintro e w1 ⟨rfl, k1⟩
    go_wp2
    go_ret
    exact ⟨rfl, HK0.out.then k1⟩
  | true =>
    rw [hf] at HF
    clear hf
    generalize admM x = r at *
    obtain ⟨d, at_, er⟩ := r
    simp only at HNo HOk HHB HRW HRA
    go_enter Tryz.func3, Tryz.ntmps3
    go_wp2_with (first
      | rw [HW.out]
      | (refine wpList_load_agg rfl 26 (.tmp 1) rfl rfl (cs := il) (by rw [HIC.out]; exact agg_image) (HCI _ (Keep.refl _ _)).out ?_))
    refine HF.out.mono ?_
    rintro e w1 ⟨rfl, k1⟩
    have HK1 := Lib.hid k1
    have hc1 := HCI w1 k1
    have HA1 := HAd w1 k1
    clear k1 HF HAd
    go_wp2_with (refine wpList_load_agg rfl 26 (.tmp 1) rfl rfl (cs := il) (by rw [HIC.out]; exact agg_image) hc1.out ?_)
    refine HA1.out.mono ?_
    rintro e w2 ⟨dv, rfl, hd, k2⟩
    have HDC : Hid ((crtCells dv d).length = 2) := show _ = _ from rfl
    have hone : Hid (∀ u ∈ crtCells dv d, u.oneCell' = true) := crt_one dv d
    have HK2 := Lib.hid (HK1.out.then k2)
    have HDA := Lib.hid hd
    clear k2 hd HA1 hc1
    simp only
    generalize hdl : crtCells dv d = dl at *
    have HDL := Lib.hid hdl
    clear hdl
    go_wp2_with (refine stop_store 31 (.tmp 3) (.tmp 14) rfl ?_)
    constructor
    refine wpList_store_all rfl 31 (.tmp 3) (.tmp 14) rfl rfl rfl (vs := dl) (by rw [HDC.out]; exact agg_cert.2) (Blk.new _ _ _) hone.out ?_ ?_
    · rw [HDC.out]; rfl
    intro w3 d3 k3
    have k23 : Keep [] w2 w3 := ((Keep.refl [] w2).alloc _).trans k3 (fun y hy hlt => by simp at hy; omega)
    have HK3 := Lib.hid (HK2.out.then k23)
    have HD3 := Lib.hid (HDA.out.keep0 k23)
    have B3 := Lib.hid d3
    have hc3 := HCI w3 HK3.out
    have HR3 := HRA w3 HK3.out
    clear k3 k23 d3 HRA HDA
    go_wp2_with (refine wpList_load_agg rfl 26 (.tmp 1) rfl rfl (cs := il) (by rw [HIC.out]; exact agg_image) hc3.out ?_)
    refine HR3.out.mono ?_
    rintro e w4 ⟨rfl, k4⟩
    have HK4 := Lib.hid (HK3.out.then k4)
    have HD4 := Lib.hid (HD3.out.keep0 k4)
    have B4 := Lib.hid (B3.out.keep0 k4)
    clear k4 HR3 hc3 HD3 B3
    by_cases hz : er = 0
    · subst hz
      have hfu := HOk.out rfl
      subst hfu
      have HHX : Hid (holdsB (fullCrt x) x = true) := by show _ = _; rw [(HHB _).out, eqW_refl]; rfl
      replace HRW := HRW rfl
      have hwl := wordsC_len HD4.out
      have HCI4 : ∀ w', Keep [] w4 w' → CellsAt w' w.heap.size 0 il := fun w' hk' => (HCI w' (HK4.out.then hk')).out
      have HCD4 : ∀ w', Keep [] w4 w' → CellsAt w' w2.heap.size 0 dl := fun w' hk' => (B4.out.keep0 hk').cellsAt
      have HWo := fun w' (k : Keep [] w4 w') => Lib.hid (words_any dv (fullCrt x) w' (HD4.out.keep0 k))
      have HRW4 := fun w' (k : Keep [] w4 w') => HRW w' (HK4.out.then k)
      have HHo4 := fun w' (k : Keep [] w4 w') => HHo dv (fullCrt x) w' (HK4.out.then k) (HD4.out.keep0 k)
      have HAl4 := fun w' (k : Keep [] w4 w') => HAl w' (HK4.out.then k)
      rw [HDL.out] at HWo HHo4
      rw [HHX.out] at HHo4
      have HWL := Lib.hid hwl
      clear HRW HHo HAl HNo HOk HHB HHX hwl HCI
      generalize wordsC (fullCrt x) = wl at *
      go_wp2
      refine ap_begin 13 (Keep [] w4) rfl (Keep.refl _ _).drew (fun hS hPan => ?_) (fun _ _ d _ _ h => by cases d <;> exact h)
      refine ap_agg 0 31 (.tmp 3) dl rfl (by kernel_rfl) (by kernel_rfl) (by kernel_rfl) (by kernel_rfl) (by rfl) hPan rfl rfl (by rw [HDC.out]; exact agg_cert) HCD4 hS ?_
      (simp only [Act.put, List.setIfInBounds_toArray, List.set_cons_zero, List.set_cons_succ])
      refine ap_agg 2 26 (.tmp 1) il rfl (by kernel_rfl) (by kernel_rfl) (by kernel_rfl) (by kernel_rfl) (by rfl) hPan rfl rfl (by rw [HIC.out]; exact agg_image) HCI4 hS ?_
      (simp only [Act.put, List.setIfInBounds_toArray, List.set_cons_zero, List.set_cons_succ])
      refine ap_one 1 (by kernel_rfl) ?_
      refine op_call (f := 11) 1 rfl (by rfl) rfl (by simp only [List.map_toArray, List.map_cons, List.map_nil]; rfl) Tryz.func11 (by kernel_rfl) (by kernel_rfl) (HWo _ hS).out ?_
      rintro e w5 ⟨A5, p5, rfl, o5, k5⟩
      replace hS := hS.then k5
      refine ⟨_, rfl, fun _ => hS, ?_⟩
      clear k5
      (simp only [Act.put, List.setIfInBounds_toArray, List.set_cons_zero, List.set_cons_succ])
      refine ap_one 3 (by kernel_rfl) ?_
      refine op_call (f := 12) 3 rfl (by rfl) rfl (by simp only [List.map_toArray, List.map_cons, List.map_nil]; rfl) Tryz.func12 (by kernel_rfl) (by kernel_rfl) (HRW4 _ hS).out ?_
      rintro e w6 ⟨A6, p6, rfl, o6, k6⟩
      have r5 := (Reads.of_own o5).keep0 k6
      have r6 := Reads.of_own o6
      replace hS := hS.then k6
      refine ⟨_, rfl, fun _ => hS, ?_⟩
      have HRo := Lib.hid (row21_same A5 A6 p5 p6 _ _ wl w6 rfl rfl r5 r6 (by have := HWL.out; omega))
      clear k6 o5 o6 r5 r6
      (simp only [Act.put, List.setIfInBounds_toArray, List.set_cons_zero, List.set_cons_succ])
      refine ap_one 4 (by kernel_rfl) ?_
      refine op_call (f := 10) 4 rfl (by rfl) rfl (by simp only [List.map_toArray, List.map_cons, List.map_nil]; rfl) Tryz.func10 (by kernel_rfl) (by kernel_rfl) HRo.out ?_
      rintro e w7 ⟨rfl, k7⟩
      replace hS := hS.then k7
      refine ⟨_, rfl, fun _ => hS, ?_⟩
      clear k7 HRo
      (simp only [Act.put, List.setIfInBounds_toArray, List.set_cons_zero, List.set_cons_succ])
      (refine ap_val (v := ?_) 5 rfl (by kernel_rfl) (by kernel_rfl) (by kernel_rfl) (by kernel_rfl) (by rfl) hPan ?_ hS ?_; rotate_left; (intro w' hSw; go_simp; try with_reducible rfl); simp only [Act.put, List.setIfInBounds_toArray, List.set_cons_zero, List.set_cons_succ])
      refine ap_agg 6 31 (.tmp 3) dl rfl (by kernel_rfl) (by kernel_rfl) (by kernel_rfl) (by kernel_rfl) (by rfl) hPan rfl rfl (by rw [HDC.out]; exact agg_cert) HCD4 hS ?_
      (simp only [Act.put, List.setIfInBounds_toArray, List.set_cons_zero, List.set_cons_succ])
      refine ap_agg 7 26 (.tmp 1) il rfl (by kernel_rfl) (by kernel_rfl) (by kernel_rfl) (by kernel_rfl) (by rfl) hPan rfl rfl (by rw [HIC.out]; exact agg_image) HCI4 hS ?_
      (simp only [Act.put, List.setIfInBounds_toArray, List.set_cons_zero, List.set_cons_succ])
      refine ap_one 8 (by kernel_rfl) ?_
      refine op_call (f := 8) 8 rfl (by rfl) rfl (by simp only [List.map_toArray, List.map_cons, List.map_nil]; rfl) Tryz.func8 (by kernel_rfl) (by kernel_rfl) (HHo4 _ hS).out ?_
      rintro e w8 ⟨rfl, k8⟩
      replace hS := hS.then k8
      refine ⟨_, rfl, fun _ => hS, ?_⟩
      clear k8
      (simp only [Act.put, List.setIfInBounds_toArray, List.set_cons_zero, List.set_cons_succ])
      (refine ap_val (v := ?_) 9 rfl (by kernel_rfl) (by kernel_rfl) (by kernel_rfl) (by kernel_rfl) (by rfl) hPan ?_ hS ?_; rotate_left; (intro w' hSw; go_simp; try with_reducible rfl); simp only [Act.put, List.setIfInBounds_toArray, List.set_cons_zero, List.set_cons_succ])
      (refine ap_val (v := ?_) 10 rfl (by kernel_rfl) (by kernel_rfl) (by kernel_rfl) (by kernel_rfl) (by rfl) hPan ?_ hS ?_; rotate_left; (intro w' hSw; go_simp; try with_reducible rfl); simp only [Act.put, List.setIfInBounds_toArray, List.set_cons_zero, List.set_cons_succ])
      refine ap_one 11 (by kernel_rfl) ?_
      refine op_call (f := 9) 11 rfl (by rfl) rfl (by simp only [List.map_toArray, List.map_nil]) Tryz.func9 (by kernel_rfl) (by kernel_rfl) (HAl4 _ hS).out ?_
      rintro e w9 ⟨rfl, k9⟩
      replace hS := hS.then k9
      refine ⟨_, rfl, fun _ => hS, ?_⟩
      clear k9
      (simp only [Act.put, List.setIfInBounds_toArray, List.set_cons_zero, List.set_cons_succ])
      (refine ap_val (v := ?_) 12 rfl (by kernel_rfl) (by kernel_rfl) (by kernel_rfl) (by kernel_rfl) (by rfl) hPan ?_ hS ?_; rotate_left; (intro w' hSw; go_simp; try with_reducible rfl); simp only [Act.put, List.setIfInBounds_toArray, List.set_cons_zero, List.set_cons_succ])
      refine ap_one 13 (by kernel_rfl) ?_
      refine op_run (v := .bool true) (w' := w9) 13 rfl (by rfl) (by go_simp) ?_
      refine ⟨fun _ => hS, ap_done (by kernel_rfl) ?_ _⟩
      (simp only [Act.put, List.setIfInBounds_toArray, List.set_cons_zero, List.set_cons_succ])
      have HE := Lib.hid (HK0.out.then (HK4.out.then hS))
      clear hS hPan
      go_wp2
      go_ret
      exact ⟨rfl, HE.out⟩
    · have hz1 : (er != 0) = true := by simpa using hz
      have hz2 : (er == 0) = false := by simpa using hz
      have hno := HNo.out hz
      subst hno
      have HHX : Hid (holdsB noCrt x = false) := by show _ = _; rw [(HHB _).out, hz2]; rfl
      have HSm := Lib.hid (same_any dv noV noCrt noCrt w4 HD4.out (crtAt_no w4))
      have HHo4 := fun w' (k : Keep [] w4 w') => HHo dv noCrt w' (HK4.out.then k) (HD4.out.keep0 k)
      have HAl4 := fun w' (k : Keep [] w4 w') => HAl w' (HK4.out.then k)
      rw [HDL.out, eqW_refl] at HSm
      rw [HDL.out, HHX.out] at HHo4
      have hcD := Lib.hid B4.out.cellsAt
      have hzc : (crtCells noV noCrt).toArray = #[.slice none 0 0, .slice none 0 0] := rfl
      rw [hzc] at HSm
      clear HRW HHo HAl HNo HOk HHB HHX hz hz2 hzc
      go_wp2_with (refine wpList_load_agg rfl 31 (.tmp 3) rfl rfl (cs := dl) (by rw [HDC.out]; exact agg_cert) hcD.out ?_)
      refine HSm.out.mono ?_
      rintro e w5 ⟨rfl, k5⟩
      have hcD5 := Lib.hid (B4.out.keep0 k5).cellsAt
      have hcI5 := HCI w5 (HK4.out.then k5)
      have HH5 := HHo4 w5 k5
      have HK5 := Lib.hid k5
      clear k5 hcD HSm HHo4
      go_wp2_with (first
        | (refine wpList_agg_gd rfl 31 (.tmp 3) rfl rfl (cs := dl) (by rw [HDC.out]; exact agg_cert) hcD5.out ?_)
        | (refine wpList_agg_gd rfl 26 (.tmp 1) rfl rfl (cs := il) (by rw [HIC.out]; exact agg_image) hcI5.out ?_))
      refine HH5.out.mono ?_
      rintro e w6 ⟨rfl, k6⟩
      have HK6 := Lib.hid (HK5.out.then k6)
      have HA6 := HAl4 w6 HK6.out
      clear k6 hcD5 hcI5 HH5 HAl4
      go_wp2_with fail
      refine HA6.out.mono ?_
      rintro e w7 ⟨rfl, k7⟩
      go_wp2
      go_ret
      exact ⟨rfl, HK0.out.then (HK4.out.then (HK6.out.then k7))⟩
end Go.Proofs.YtggjhjbcdnffnaaGreatDoor
