/- TallyCounts, walked: true, for every two rows of events and every kind. -/
import Derived.Test.YtgonnddgljgghaaTally4
import Derived.Test.YtgonnddgljgghaaLaw
import Derived.Test.YtgonnddgljgghaaTallyEq
import Derived.Deep.DeepCutAuto
namespace Go.Proofs.Ytgonnddgljgghaa
open Go.RowKit

section
variable {P : Program} {ops : Array Oper} {rest : List Oper} {o : Oper} {a : Act} {Q : Exit → Act → World → Prop} {w : World}
/-- A whole struct or array loaded, under a guard that lets it. -/
theorem wpList_load_agg_g (hgd : Region.wanted o (yielded ops a.tmps) = true) (ty : TypeId) (x : Operand) (ho : o.op = .load ty x) {b f : Nat} (hx : a.eval x = .pointer (some ⟨b, f, none⟩)) {cs : List Value} (hA : AggOf P ty cs.length) (hc : CellsAt w b f cs)
    (h : wpList P ops Q rest (a.put o.dst (.agg cs.toArray)) w) : wpList P ops Q (o :: rest) a w := by
  refine wpList_step fun K hK => ?_
  rw [if_pos hgd]
  unfold Oper.wp execOp
  simp only [ho, hx, Instr.loadAt, Instr.sureAddr, Sem.run_bind, Sem.run_pure, Result.andThen_ok, run_loadVar_agg hA hc]
  exact hK _ _ h
end

theorem flat2_prefix {a b : List II} (h : a <+: b) : flat2 a <+: flat2 b := by
  obtain ⟨r, rfl⟩ := h
  unfold flat2
  rw [List.flatMap_append]
  exact List.prefix_append _ _
theorem evRow_append (l m : List Ev) : evRow (l ++ m) = evRow l ++ evRow m := by simp [evRow]
theorem evRow_one (l : List Ev) : ∀ u ∈ evRow l, u.oneCell' = true := by
  intro u hu
  obtain ⟨e, _, he⟩ := List.mem_flatMap.1 hu
  simp [evCells] at he
  rcases he with rfl | rfl | rfl | rfl <;> rfl
theorem evRow_len (l : List Ev) : (evRow l).length = l.length * 4 := by
  induction l with
  | nil => rfl
  | cons e l ih => rw [show evRow (e :: l) = evCells e ++ evRow l from rfl, List.length_append, ih, List.length_cons, show (evCells e).length = 4 from rfl]; omega
theorem slice_ev : SliceOf Try.prog 58 101 4 32 := ⟨Try.underlying58, by kernel_rfl, by decide⟩

theorem some_at (l : List Ev) (k : Nat) (hk : k + 2 ≤ 11) (hc : 0 < cnt l ((k + 1 : Nat) : Int)) :
    (ints (flat2 (someK l 11)))[2 * (someK l (k + 1)).length]? = some (.int .i64 ((k + 1 : Nat) : Int)) ∧ (ints (flat2 (someK l 11)))[2 * (someK l (k + 1)).length + 1]? = some (.int .i64 (cnt l ((k + 1 : Nat) : Int) : Int)) ∧
    (someK l (k + 2)).length = (someK l (k + 1)).length + 1 ∧ (someK l (k + 1)).length + 1 ≤ (someK l 11).length := by
  have e : someK l (k + 2) = someK l (k + 1) ++ [(((k + 1 : Nat) : Int), (cnt l ((k + 1 : Nat) : Int) : Int))] := by rw [someK, if_pos ⟨by omega, hc⟩]
  obtain ⟨r, hr⟩ := someK_prefix l hk
  have hl : (someK l 11).length = (someK l (k + 2)).length + r.length := by rw [← hr]; simp
  have e2 : ints (flat2 (someK l 11)) = ints (flat2 (someK l (k + 1))) ++ ([.int .i64 ((k + 1 : Nat) : Int), .int .i64 (cnt l ((k + 1 : Nat) : Int) : Int)] ++ ints (flat2 r)) := by
    rw [← hr, e]
    simp [ints, flat2]
  have hlen : (ints (flat2 (someK l (k + 1)))).length = 2 * (someK l (k + 1)).length := by simp [ints, flat2_len]
  have h3 : (someK l (k + 2)).length = (someK l (k + 1)).length + 1 := by rw [e]; simp
  refine ⟨?_, ?_, h3, by omega⟩
  · rw [e2, List.getElem?_append_right (by omega), hlen, Nat.sub_self]; rfl
  · rw [e2, List.getElem?_append_right (by omega), hlen, show 2 * (someK l (k + 1)).length + 1 - 2 * (someK l (k + 1)).length = 1 by omega]; rfl
theorem some_none (l : List Ev) (k : Nat) (hc : cnt l ((k + 1 : Nat) : Int) = 0) : someK l (k + 2) = someK l (k + 1) := by
  rw [someK, if_neg (by omega), List.append_nil]
theorem cntK_in (l : List Ev) (k : Nat) (hk : k < 10) : cntK l ((k + 1 : Nat) : Int) = (cnt l ((k + 1 : Nat) : Int) : Int) := by unfold cntK; rw [if_pos (by omega)]

set_option maxRecDepth 100000 in
set_option maxHeartbeats 8000000 in
theorem tallyCounts_any (A B : Option Addr) (n m c d : Nat) (l1 l2 : List Ev) (q : Int) (w : World) (hr1 : Reads w 4 A n (evRow l1)) (hn1 : l1.length = n) (hm1 : n ≤ maxLen) (hr2 : Reads w 4 B m (evRow l2)) (hn2 : l2.length = m) (hm2 : m ≤ maxLen) :
    Calls Try.prog 7 #[.slice A n c, .slice B m d, .int .i64 q] w fun e w' => e = .returned (.bool true) ∧ Keep [] w w' := by
  by_cases hbig : 500 < n ∨ 500 < m
  · have hc : 500 < n ∨ (n ≤ 500 ∧ 500 < m) := by omega
    clear hbig
    rcases hc with h1 | ⟨h1, h2⟩
    all_goals
      go_enter Try.func7, Try.ntmps7
      go_wp2
      go_ret
      exact ⟨rfl, Keep.refl _ _⟩
  have hb1 : n ≤ 500 := by omega
  have hb2 : m ≤ 500 := by omega
  clear hbig
  have HN1 := Lib.hid hn1
  have HN2 := Lib.hid hn2
  clear hn1 hn2
  go_enter Try.func7, Try.ntmps7
  go_wp2_with fail
  refine (tallyOf_any A n c l1 w hr1 HN1.out hm1).mono ?_
  rintro e w1 ⟨rfl, k1⟩
  go_wp2_with fail
  refine (tallyOf_any B m d l2 w1 (hr2.keep0 k1) HN2.out hm2).mono ?_
  rintro e w2 ⟨rfl, k2⟩
  have K2 := k1.then k2
  clear k1 k2
  obtain ⟨W3, hW3⟩ : ∃ W3, (w2.alloc (.cells (intsV (tal [])).toArray 61)).alloc (.cells (intsV (tal [])).toArray 61) = W3 := ⟨_, rfl⟩
  have hsz : W3.heap.size = w2.heap.size + 2 := by rw [← hW3]; simp
  have b0 : Blk W3 w2.heap.size 61 (intsV (tal [])).toArray := by rw [← hW3]; exact (Blk.new _ _ _).alloc _
  have b1 : Blk W3 (w2.heap.size + 1) 61 (intsV (tal [])).toArray := by
    rw [← hW3]; have := Blk.new (w2.alloc (.cells (intsV (tal [])).toArray 61)) 61 (intsV (tal [])).toArray; rw [World.size_alloc] at this; exact this
  have K3 : Keep [] w W3 := by rw [← hW3]; exact (K2.alloc _).alloc _
  have HW : Hid ((w2.alloc (.cells #[.int .i64 0, .int .i64 0, .int .i64 0, .int .i64 0, .int .i64 0, .int .i64 0, .int .i64 0, .int .i64 0, .int .i64 0, .int .i64 0, .int .i64 0] 61)).alloc (.cells #[.int .i64 0, .int .i64 0, .int .i64 0, .int .i64 0, .int .i64 0, .int .i64 0, .int .i64 0, .int .i64 0, .int .i64 0, .int .i64 0, .int .i64 0] 61) = W3) := by rw [← hW3]; rfl
  clear hW3
  have hle : w.heap.size ≤ w2.heap.size := K2.size
  have hA1 : Hid (∀ l, AggOf Try.prog 61 (intsV (tal l)).length) := by show ∀ l, AggOf _ _ _; intro l; rw [List.length_map, tal_len]; exact agg_tally
  clear K2
  go_wp2_with (first
    | (rw [HW.out]; refine wpList_store_all rfl 61 (.tmp 7) (.tmp 27) rfl rfl rfl (vs := intsV (tal l1)) (hA1.out l1).2 b0 (intsV_one _) (by simp [tal_len]) ?_; intro w4 b0' k4; have b1' := b1.keep k4 (by simp))
    | (refine wpList_store_all rfl 61 (.tmp 8) (.tmp 29) rfl rfl rfl (vs := intsV (tal l2)) (hA1.out l2).2 b1' (intsV_one _) (by simp [tal_len]) ?_; intro w5 b1'' k5; have b0'' := b0'.keep k5 (by simp)
       have K5 := (K3.trans k4 (fun y hy h => by simp at hy; omega)).trans k5 (fun y hy h => by simp at hy; omega)
       have hs5 : w2.heap.size + 2 ≤ w5.heap.size := by have h1 := k4.size; have h2 := k5.size; omega
       have hown0 : (w5.alloc (.cells #[] 101)).ownsRow w5.heap.size 101 4 (.slice (some ⟨w5.heap.size, 0, none⟩) 0 0) 0 [] := World.ownsRow_lit (base := w5.heap.size) (e := 101) (size := 4) w5 #[] 0 (Nat.le_refl _) (by decide) rfl
       clear b0 b1 b0' b1' k4 k5 K3 HW hsz)
    | (refine wpList_append_reads rfl (.tmp 30) (.tmp 31) 58 rfl slice_ev hown0 rfl ((hr1.keep0 K5).alloc _) rfl (evRow_one l1) (by simp) (by omega) (by unfold maxLen; omega) ?_
       intro v6 w6 hown6 k6 _
       rw [Nat.zero_add, List.nil_append] at hown6
       obtain ⟨A6, c6, rfl⟩ := own_shape hown6
       have k56 : Keep [] w5 w6 := (((Keep.refl [] w5).alloc _).trans k6 (fun y hy h => by simp [Value.ownBlock] at hy; omega))
       have hs6 := k56.size)
    | (refine wpList_append_reads rfl (.tmp 32) (.tmp 33) 58 rfl slice_ev hown6 rfl ((hr2.keep0 K5).keep0 k56) rfl (evRow_one l2) (by omega) (by omega) (by unfold maxLen; omega) ?_
       intro v7 w7 hown7 k7 _
       obtain ⟨A7, c7, rfl⟩ := own_shape hown7
       have k57 : Keep [] w5 w7 := k56.trans k7 (fun y hy h => by have := (hown6.lt y (by simpa using hy)).1; omega)
       have K7 := K5.then k57
       have d0 := b0''.keep k57 (by simp)
       have d1 := b1''.keep k57 (by simp)
       have HB : Hid (Reads w7 4 A7 (n + m) (evRow (l1 ++ l2))) := by
         have := Reads.of_own hown7
         rw [← evRow_append] at this
         exact this
       clear hown0 k56 hs6 k7 hown6 hown7 k6)
    | (refine wpList_load_agg rfl 61 (.tmp 7) rfl rfl (cs := intsV (tal l1)) (hA1.out l1) d0.cellsAt ?_))
  refine (someHelp_any l1 _).mono ?_
  rintro e w8 ⟨A8, c8, rfl, hown8, k8⟩
  rw [flat2_len] at hown8 ⊢
  have b0 := d0.keep k8 (by simp)
  have b1 := d1.keep k8 (by simp)
  have HB8 : Hid (Reads w8 4 A7 (n + m) (evRow (l1 ++ l2))) := HB.out.keep0 k8
  have HS8 : Hid (Reads w8 1 A8 (2 * (someK l1 11).length) (ints (flat2 (someK l1 11)))) := Reads.of_own hown8
  have K8 := K7.then k8
  have HR8 : Hid (Reads w8 4 A n (evRow l1)) := hr1.keep0 K8
  have hl11 := someK_le l1 11
  clear hown8 k8 HB d0 d1 K7 K5 b0'' b1'' hs5
  have hg0 : w2.heap.size < w8.heap.size := Blk.lt b0
  have HL12 : Hid ((l1 ++ l2).length = n + m) := by show _ = _; rw [List.length_append, HN1.out, HN2.out]
  generalize w2.heap.size = g0 at *
  have hcount : Hid (∀ (W : World) (q : Int), Keep [] w8 W → Calls Try.prog 38 #[.slice A n c, .int .i64 q] W fun e w' => e = .returned (.int .i64 (cnt l1 q : Int)) ∧ W = w') :=
    fun W q hk => count_any A n c l1 q W (HR8.out.keep0 hk) HN1.out hm1
  have hcountB : Hid (∀ (W : World) (q : Int), Keep [] w8 W → Calls Try.prog 38 #[.slice A7 (n + m) c7, .int .i64 q] W fun e w' => e = .returned (.int .i64 (cnt (l1 ++ l2) q : Int)) ∧ W = w') :=
    fun W q hk => count_any A7 (n + m) c7 (l1 ++ l2) q W (HB8.out.keep0 hk) HL12.out (by unfold maxLen; omega)
  go_wp2
  go_loopw [10, 11, 12, 14] (fun vt va vp vi wr => ∃ k : Nat, k ≤ 10 ∧ vi = .int .i64 (k + 1 : Nat) ∧ vt = strOf (talText l1 k) ∧ va = .int .i64 (total l1 k : Nat) ∧ vp = .int .i64 (2 * (someK l1 (k + 1)).length : Nat) ∧ Keep [] w8 wr) (fun _ _ _ vi _ => 11 - (intOf vi).toNat)
  case atStart => exact ⟨0, by omega, rfl, rfl, rfl, rfl, Keep.refl _ _⟩
  case round =>
    obtain ⟨k, hk, rfl, rfl, rfl, rfl, hkeep⟩ := hrel
    by_cases hlt : k < 10
    · have hlen := talText_len l1 k
      have hlen2 := decL_len10 (cnt l1 ((k + 1 : Nat) : Int))
      have htot : total l1 k ≤ 5000 := by
        have := total_le l1 k
        have h2 : k * l1.length ≤ 10 * 500 := Nat.mul_le_mul (by omega) (by rw [HN1.out]; omega)
        omega
      have hcl := cnt_le l1 ((k + 1 : Nat) : Int)
      rw [HN1.out] at hcl
      have had1 : ∀ W, (binOp .add 9 (strOf (talText l1 k)) (.string ⟨#[32]⟩)).run Try.prog W = .ok (strOf (talText l1 k ++ [32])) W := fun W => run_add_str _ _ [32] (by simp; omega) W
      have had2 := fun W => run_add_str (P := Try.prog) 9 (talText l1 k ++ [32]) (decL (clampN (cnt l1 ((k + 1 : Nat) : Int)))) (by rw [List.length_append]; simp only [List.length_cons, List.length_nil]; omega) W
      have had3 := fun W => run_add_str (P := Try.prog) 9 (talText l1 k) (decL (clampN (cnt l1 ((k + 1 : Nat) : Int)))) (by omega) W
      have HT0 : Hid (talText l1 (k + 1) = (if k = 0 then [] else talText l1 k ++ [32]) ++ decL (clampN (cnt l1 ((k + 1 : Nat) : Int)))) := show _ = _ from rfl
      have HTot : Hid (total l1 (k + 1) = total l1 k + cnt l1 ((k + 1 : Nat) : Int)) := show _ = _ from rfl
      have HK1 : Hid (cntK l1 ((k : Int) + 1) = (cnt l1 ((k + 1 : Nat) : Int) : Int)) := cntK_in l1 k hlt
      have HK2 : Hid (cntK (l1 ++ l2) ((k : Int) + 1) = (cnt (l1 ++ l2) ((k + 1 : Nat) : Int) : Int)) := cntK_in (l1 ++ l2) k hlt
      have hp10 : 2 * (someK l1 (k + 1)).length ≤ 22 := by have := someK_le l1 (k + 1); omega
      have hSN : Hid (cnt l1 ((k + 1 : Nat) : Int) = 0 → 2 * (someK l1 (k + 1 + 1)).length = 2 * (someK l1 (k + 1)).length) := fun h => by rw [← some_none l1 k h]
      have hSP : Hid (0 < cnt l1 ((k + 1 : Nat) : Int) → (ints (flat2 (someK l1 11)))[2 * (someK l1 (k + 1)).length]? = some (.int .i64 ((k : Int) + 1)) ∧ (ints (flat2 (someK l1 11)))[2 * (someK l1 (k + 1)).length + 1]? = some (.int .i64 (cnt l1 ((k + 1 : Nat) : Int) : Int)) ∧
          2 * (someK l1 (k + 1 + 1)).length = 2 * (someK l1 (k + 1)).length + 2 ∧ 2 * (someK l1 (k + 1)).length + 2 ≤ 2 * (someK l1 11).length) := fun h => by
        obtain ⟨h1, h2, h3, h4⟩ := some_at l1 k (by omega) h
        have h3' : (someK l1 (k + 1 + 1)).length = (someK l1 (k + 1)).length + 1 := h3
        exact ⟨h1, h2, by omega, by omega⟩
      have hc1 : Hid (∀ (W : World), Keep [] w8 W → Calls Try.prog 38 #[.slice A n c, .int .i64 ((k + 1 : Nat) : Int)] W fun e w' => e = .returned (.int .i64 (cnt l1 ((k + 1 : Nat) : Int) : Int)) ∧ W = w') := fun W h => hcount.out W _ h
      have hc2 : Hid (∀ (W : World), Keep [] w8 W → Calls Try.prog 38 #[.slice A7 (n + m) c7, .int .i64 ((k + 1 : Nat) : Int)] W fun e w' => e = .returned (.int .i64 (cnt (l1 ++ l2) ((k + 1 : Nat) : Int) : Int)) ∧ W = w') := fun W h => hcountB.out W _ h
      generalize cnt l1 ((k + 1 : Nat) : Int) = x' at *
      generalize cnt (l1 ++ l2) ((k + 1 : Nat) : Int) = y' at *
      generalize 2 * (someK l1 (k + 1)).length = p at *
      generalize 2 * (someK l1 11).length = L8 at *
      rcases Nat.eq_zero_or_pos k with h0 | h0
      · have HT : Hid (talText l1 (k + 1) = talText l1 k ++ decL (clampN x')) := by show _ = _; rw [HT0.out, if_pos h0]; subst h0; rfl
        have h0' : k ≤ 0 := by omega
        clear h0 HT0 had1 had2
        generalize talText l1 k = x at *
        generalize total l1 k = tt at *
        go_wp2_with fail
        refine (hc1.out _ hkeep).mono ?_
        rintro e w' ⟨rfl, rfl⟩
        go_wp2_with fail
        refine (rtext_any x' _).mono ?_
        rintro e wa ⟨T, rfl, hT, ka⟩
        have hTs : Value.string T = strOf (decL (clampN x')) := by rw [← hT, strOf_bytes]
        rw [hTs]
        clear hT hTs
        have ka' := hkeep.then ka
        go_wp2_with (refine wpList_load_agg rfl 61 (.tmp 7) rfl rfl (cs := intsV (tal l1)) (hA1.out l1) (b0.keep ka' (by simp)).cellsAt ?_)
        refine (tallyCount_any l1 _ _).mono ?_
        rintro e wb ⟨rfl, kb⟩
        rw [HK1.out]
        have kb' := ka'.then kb
        go_wp2_with (first
          | (refine wpList_load_agg_g rfl 61 (.tmp 7) rfl rfl (cs := intsV (tal l1)) (hA1.out l1) (b0.keep kb' (by simp)).cellsAt ?_)
          | (refine wpList_load_agg_g rfl 61 (.tmp 8) rfl rfl (cs := intsV (tal l2)) (hA1.out l2) (b1.keep kb' (by simp)).cellsAt ?_))
        refine (tallyJoin_any l1 l2 _ (by rw [HN1.out]; omega) (by rw [HN2.out]; omega)).mono ?_
        rintro e wc ⟨rfl, kc⟩
        have kc' := kb'.then kc
        go_wp2_with fail
        refine (tallyCount_any (l1 ++ l2) _ _).mono ?_
        rintro e wd ⟨rfl, kd⟩
        rw [HK2.out]
        have kd' := kc'.then kd
        go_wp2_with fail
        refine (hc2.out _ kd').mono ?_
        rintro e w' ⟨rfl, rfl⟩
        clear ka kb kc kd ka' kb' kc'
        rcases Nat.eq_zero_or_pos x' with hz | hz
        · have hN := Lib.hid (hSN.out hz)
          have hd : ((x' : Int) == 0) = true := by simp [hz]
          clear hz
          go_wp2
          go_roundw
          case rel => exact ⟨k + 1, by omega, by go_num, by rw [HT.out], by rw [HTot.out]; rfl, by rw [hN.out], kd'⟩
          case measure => simp [intOf] <;> omega
        · obtain ⟨hx1, hx2, hx3, hx4⟩ := hSP.out hz
          have hd : ((x' : Int) == 0) = false := by simp; omega
          obtain ⟨bb, oo, rfl, hbb, hcc⟩ := (HS8.out.keep0 kd').addr (by omega)
          have hi1 := hcc _ _ hx1
          have hi2 := hcc _ _ hx2
          have hi2b := hi2
          rw [← Nat.add_assoc] at hi2b
          have hN := Lib.hid hx3
          clear hcc hx1 hx2 hx3
          go_wp2
          go_roundw
          case rel => exact ⟨k + 1, by omega, by go_num, by rw [HT.out], by rw [HTot.out]; rfl, by rw [hN.out]; rfl, kd'⟩
          case measure => simp [intOf] <;> omega
      · have HT : Hid (talText l1 (k + 1) = talText l1 k ++ 32 :: decL (clampN x')) := by show _ = _; rw [HT0.out, if_neg (by omega), List.append_assoc]; rfl
        clear HT0 had3
        generalize talText l1 k = x at *
        generalize total l1 k = tt at *
        go_wp2_with fail
        refine (hc1.out _ hkeep).mono ?_
        rintro e w' ⟨rfl, rfl⟩
        go_wp2_with fail
        refine (rtext_any x' _).mono ?_
        rintro e wa ⟨T, rfl, hT, ka⟩
        have hTs : Value.string T = strOf (decL (clampN x')) := by rw [← hT, strOf_bytes]
        rw [hTs]
        clear hT hTs
        have ka' := hkeep.then ka
        go_wp2_with (refine wpList_load_agg rfl 61 (.tmp 7) rfl rfl (cs := intsV (tal l1)) (hA1.out l1) (b0.keep ka' (by simp)).cellsAt ?_)
        refine (tallyCount_any l1 _ _).mono ?_
        rintro e wb ⟨rfl, kb⟩
        rw [HK1.out]
        have kb' := ka'.then kb
        go_wp2_with (first
          | (refine wpList_load_agg_g rfl 61 (.tmp 7) rfl rfl (cs := intsV (tal l1)) (hA1.out l1) (b0.keep kb' (by simp)).cellsAt ?_)
          | (refine wpList_load_agg_g rfl 61 (.tmp 8) rfl rfl (cs := intsV (tal l2)) (hA1.out l2) (b1.keep kb' (by simp)).cellsAt ?_))
        refine (tallyJoin_any l1 l2 _ (by rw [HN1.out]; omega) (by rw [HN2.out]; omega)).mono ?_
        rintro e wc ⟨rfl, kc⟩
        have kc' := kb'.then kc
        go_wp2_with fail
        refine (tallyCount_any (l1 ++ l2) _ _).mono ?_
        rintro e wd ⟨rfl, kd⟩
        rw [HK2.out]
        have kd' := kc'.then kd
        go_wp2_with fail
        refine (hc2.out _ kd').mono ?_
        rintro e w' ⟨rfl, rfl⟩
        clear ka kb kc kd ka' kb' kc'
        rcases Nat.eq_zero_or_pos x' with hz | hz
        · have hN := Lib.hid (hSN.out hz)
          have hd : ((x' : Int) == 0) = true := by simp [hz]
          clear hz
          go_wp2
          go_roundw
          case rel => exact ⟨k + 1, by omega, by go_num, by rw [HT.out], by rw [HTot.out]; rfl, by rw [hN.out], kd'⟩
          case measure => simp [intOf] <;> omega
        · obtain ⟨hx1, hx2, hx3, hx4⟩ := hSP.out hz
          have hd : ((x' : Int) == 0) = false := by simp; omega
          obtain ⟨bb, oo, rfl, hbb, hcc⟩ := (HS8.out.keep0 kd').addr (by omega)
          have hi1 := hcc _ _ hx1
          have hi2 := hcc _ _ hx2
          have hi2b := hi2
          rw [← Nat.add_assoc] at hi2b
          have hN := Lib.hid hx3
          clear hcc hx1 hx2 hx3
          go_wp2
          go_roundw
          case rel => exact ⟨k + 1, by omega, by go_num, by rw [HT.out], by rw [HTot.out]; rfl, by rw [hN.out]; rfl, kd'⟩
          case measure => simp [intOf] <;> omega
    · obtain rfl : k = 10 := by omega
      clear hlt hk
      have hlen := talText_len l1 10
      generalize 2 * (someK l1 (10 + 1)).length = L8 at *
      have HS : Hid (sound l1 = (decide (cnt l1 3 ≤ cnt l1 2) && decide (cnt l1 4 ≤ cnt l1 3) && decide (cnt l1 6 ≤ cnt l1 5) && decide (cnt l1 8 ≤ cnt l1 7) && decide (cnt l1 9 ≤ cnt l1 8))) := show _ = _ from rfl
      go_upto_region 21 with fail
      go_cut [16] (fun s16 wx => s16 = .bool (sound l1) ∧ wr = wx)
      case first =>
        have hcc : Hid (∀ (q : Int), Calls Try.prog 38 #[.slice A n c, .int .i64 q] wr fun e w' => e = .returned (.int .i64 (cnt l1 q : Int)) ∧ wr = w') := fun q => hcount.out wr q hkeep
        have hcase : (cnt l1 2 < cnt l1 3) ∨ (cnt l1 3 ≤ cnt l1 2 ∧ cnt l1 3 < cnt l1 4) ∨ (cnt l1 3 ≤ cnt l1 2 ∧ cnt l1 4 ≤ cnt l1 3 ∧ cnt l1 5 < cnt l1 6) ∨ (cnt l1 3 ≤ cnt l1 2 ∧ cnt l1 4 ≤ cnt l1 3 ∧ cnt l1 6 ≤ cnt l1 5 ∧ cnt l1 7 < cnt l1 8) ∨
            (cnt l1 3 ≤ cnt l1 2 ∧ cnt l1 4 ≤ cnt l1 3 ∧ cnt l1 6 ≤ cnt l1 5 ∧ cnt l1 8 ≤ cnt l1 7 ∧ cnt l1 8 < cnt l1 9) ∨ (cnt l1 3 ≤ cnt l1 2 ∧ cnt l1 4 ≤ cnt l1 3 ∧ cnt l1 6 ≤ cnt l1 5 ∧ cnt l1 8 ≤ cnt l1 7 ∧ cnt l1 9 ≤ cnt l1 8) := by omega
        clear hcount hcountB b0 b1 HS8 HB8 HR8 hlen
        rcases hcase with h1 | ⟨h1, h2⟩ | ⟨h1, h2, h3⟩ | ⟨h1, h2, h3, h4⟩ | ⟨h1, h2, h3, h4, h5⟩ | ⟨h1, h2, h3, h4, h5⟩
        all_goals
          go_wp2_with (refine (hcc.out _).mono ?_; rintro e w' ⟨rfl, rfl⟩)
          go_meet
          exact ⟨by rw [HS.out]; simp <;> omega, rfl⟩
      case rest =>
        obtain ⟨rfl, rfl⟩ := hcut
        have hBoth : Hid (∀ W, Keep [] w8 W → Calls Try.prog 36 #[.slice A7 (n + m) c7] W fun e w' => e = .returned (.agg (intsV (tal (l1 ++ l2))).toArray) ∧ Keep [] W w') :=
          fun W hk => tallyOf_any A7 (n + m) c7 (l1 ++ l2) W (HB8.out.keep0 hk) HL12.out (by unfold maxLen; omega)
        have hg1 := fun W => eql_tal (l1 ++ l2) W
        have hg2 := fun x y W => guard_tal x y (l1 ++ l2) (l1 ++ l2) W
        have hJ := fun W => Lib.hid (tallyJoin_any l1 l2 W (by rw [HN1.out]; omega) (by rw [HN2.out]; omega))
        have hAll := fun W => Lib.hid (tallyAll_any l1 W (by rw [HN1.out]; omega))
        have hlt110 : total l1 10 ≤ 1000000 := by
          have := total_le l1 10
          have h2 := HN1.out
          omega
        have hse : ∀ W, (binOp .eql 9 (strOf (talText l1 10)) (strOf (talText l1 10))).run Try.prog W = .ok (.bool true) W := fun W => by rw [run_eql_str]; simp
        have hsg : ∀ x y W, (eqGuard .eql 9 x y (strOf (talText l1 10)) (strOf (talText l1 10))).run Try.prog W = .ok () W := fun x y W => rfl
        clear HS hcount hcountB HB8 HS8 HR8 hlen
        go_upto_region 22 with fail
        go_cut [17] (fun s17 wx => ∃ ob : Bool, s17 = .bool ob ∧ (ob = true → cntK l1 q = 0) ∧ wr = wx)
        case first =>
          clear hBoth hg1 hg2 hJ hAll hlt110 hse hsg b0 b1
          have hq : q < 1 ∨ (1 ≤ q ∧ 10 < q) ∨ (1 ≤ q ∧ q ≤ 10) := by omega
          rcases hq with hq1 | ⟨hq1, hq2⟩ | ⟨hq1, hq2⟩
          · have HQ : Hid (cntK l1 q = 0) := by show _ = _; unfold cntK; rw [if_neg (by omega)]
            go_wp2_with fail
            go_meet
            exact ⟨_, rfl, fun _ => HQ.out, rfl⟩
          · have HQ : Hid (cntK l1 q = 0) := by show _ = _; unfold cntK; rw [if_neg (by omega)]
            go_wp2_with fail
            go_meet
            exact ⟨_, rfl, fun _ => HQ.out, rfl⟩
          · go_wp2_with fail
            go_meet
            exact ⟨false, by simp; omega, fun h => (by cases h), rfl⟩
        case rest =>
        obtain ⟨ob, rfl, hob, rfl⟩ := hcut
        have HOB := Lib.hid hob
        clear hob
        go_wp2_with (refine wpList_load_agg_g rfl 61 (.tmp 7) rfl rfl (cs := intsV (tal l1)) (hA1.out l1) (b0.keep hkeep (by simp)).cellsAt ?_)
        refine (tallyText_any l1 _).mono ?_
        rintro e wa ⟨T, rfl, hT, ka⟩
        have hTs : Value.string T = strOf (talText l1 10) := by rw [← hT, strOf_bytes]
        rw [hTs]
        clear hT hTs
        have ka' := hkeep.then ka
        go_wp2_with (refine wpList_load_agg_g rfl 61 (.tmp 7) rfl rfl (cs := intsV (tal l1)) (hA1.out l1) (b0.keep ka' (by simp)).cellsAt ?_)
        refine (hAll _).out.mono ?_
        rintro e wb ⟨rfl, kb⟩
        have kb' := ka'.then kb
        go_wp2_with (refine wpList_load_agg_g rfl 61 (.tmp 7) rfl rfl (cs := intsV (tal l1)) (hA1.out l1) (b0.keep kb' (by simp)).cellsAt ?_)
        refine (tallySound_any l1 _).mono ?_
        rintro e wc ⟨rfl, kc⟩
        have kc' := kb'.then kc
        go_wp2_with (first
          | (refine wpList_load_agg_g rfl 61 (.tmp 7) rfl rfl (cs := intsV (tal l1)) (hA1.out l1) (b0.keep kc' (by simp)).cellsAt ?_)
          | (refine wpList_load_agg_g rfl 61 (.tmp 8) rfl rfl (cs := intsV (tal l2)) (hA1.out l2) (b1.keep kc' (by simp)).cellsAt ?_))
        refine (hJ _).out.mono ?_
        rintro e wd ⟨rfl, kd⟩
        have kd' := kc'.then kd
        go_wp2_with fail
        refine (hBoth.out _ kd').mono ?_
        rintro e we ⟨rfl, ke⟩
        have ke' := kd'.then ke
        rcases ob with _ | _
        · clear HOB
          go_wp2_with fail
          refine (alive44 _).mono ?_
          rintro e wf ⟨rfl, kf⟩
          have kf' := K8.then (ke'.then kf)
          go_wp2
          go_ret
          exact ⟨rfl, kf'⟩
        · have HQ := Lib.hid (HOB.out rfl)
          clear HOB
          go_wp2_with (refine wpList_load_agg_g rfl 61 (.tmp 7) rfl rfl (cs := intsV (tal l1)) (hA1.out l1) (b0.keep ke' (by simp)).cellsAt ?_)
          refine (tallyCount_any l1 q _).mono ?_
          rintro e wf ⟨rfl, kf⟩
          rw [HQ.out]
          have kf' := ke'.then kf
          go_wp2_with fail
          refine (alive44 _).mono ?_
          rintro e wg ⟨rfl, kg⟩
          have kg' := K8.then (kf'.then kg)
          go_wp2
          go_ret
          exact ⟨rfl, kg'⟩
end Go.Proofs.Ytgonnddgljgghaa
