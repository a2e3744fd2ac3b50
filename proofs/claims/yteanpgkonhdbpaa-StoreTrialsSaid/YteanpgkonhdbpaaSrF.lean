/- A store's Start, Staged, next, Commit, Confirm, Install; walked. Condition: the device is one that may be, of at least six sectors of thirteen words. A store's Staged, Commit, Confirm, Install; walked. Condition: the device is one that may be, of at least six sectors of thirteen words. A store's Install; store.New; walked. Condition: the device is one that may be. -/
import Derived.Test.YteanpgkonhdbpaaSrC
namespace Go.Proofs.Yteanpgkonhdbpaa
open Go.RowKit

theorem SrAt.setRun {W : World} {v : StW} {s : StS} (hs : SrAt W v s) (r : Int) : SrAt (W.setCell ⟨v.gs, 3, none⟩ (.int .i64 r)) v { s with r := r } ∧ Keep [v.gs] W (W.setCell ⟨v.gs, 3, none⟩ (.int .i64 r)) := by
  obtain ⟨n1, n2, n3, n4, n5, n6, n7, n8, n9, n10, n11⟩ := hs.nes
  have k0 := keep_set W v.gs 3 (.int .i64 r)
  exact ⟨⟨hs.st.set_ 3 (.int .i64 r), hs.dev.keep k0 (by simp [Ne.symm n3]) (by simp [Ne.symm n4]) (by simp [Ne.symm n5]), Blk.keep hs.bk0 k0 (by simp [Ne.symm n1]), Blk.keep hs.bk1 k0 (by simp [Ne.symm n2]), hs.ne⟩, k0⟩
theorem gs_mem (v : StW) : ∀ y ∈ [v.gs], y ∈ v.all := fun y hy => by unfold StW.all; simp only [List.mem_cons, List.not_mem_nil, or_false] at hy ⊢; exact .inl hy
def startSr (s : StS) (i : Int) : StS × Int :=
  if i < 0 ∨ 1 < i then (s, 80)
  else if s.d.on = false then (s, 63)
  else match candS s i.toNat with
    | none => (s, 80)
    | some c => if c.trial = true then
        (if (tryB s.d (s.bk i.toNat)).2 = 0 then ({ s.put i.toNat (tryB s.d (s.bk i.toNat)).1 (s.bk i.toNat) with r := i }, 0) else (s.put i.toNat (tryB s.d (s.bk i.toNat)).1 (s.bk i.toNat), (tryB s.d (s.bk i.toNat)).2))
      else ({ s with r := i }, 0)
theorem SrOk.setRun {s : StS} (h : SrOk s) {i : Int} (hi : i = -1 ∨ i = 0 ∨ i = 1) : SrOk { s with r := i } := ⟨h.ok, h.six, h.words, h.base0, h.many0, h.base1, h.many1, hi, h.fine0, h.fine1⟩
theorem startSr_ok {s : StS} (ho : SrOk s) (i : Int) : SrOk (startSr s i).1 := by
  unfold startSr
  split
  · exact ho
  · rename_i h1
    split
    · exact ho
    · split
      · exact ho
      · obtain ⟨b1, b2⟩ := tryB_ok ho.ok (s.bk i.toNat)
        have hp := ho.put (i := i.toNat) (by omega) b1 b2 rfl rfl (ho.fine _)
        split
        · split
          · exact hp.setRun (by omega)
          · exact hp
        · exact ho.setRun (by omega)

section
variable (v : StW) (s : StS) (w : World)
set_option maxRecDepth 100000 in
set_option maxHeartbeats 2000000 in
theorem sstart_any (i : Int) (hs : SrAt w v s) (ho : SrOk s) : Calls Try.prog 46 #[.pointer (some ⟨v.gs, 0, none⟩), .int .i64 i] w (RetSr w v (startSr s i).1 (startSr s i).2) := by
  have HSS : Hid (startSr s i = if i < 0 ∨ 1 < i then (s, 80) else if s.d.on = false then (s, 63)
    else match candS s i.toNat with
    | none => (s, 80)
    | some c => if c.trial = true then
        (if (tryB s.d (s.bk i.toNat)).2 = 0 then ({ s.put i.toNat (tryB s.d (s.bk i.toNat)).1 (s.bk i.toNat) with r := i }, 0) else (s.put i.toNat (tryB s.d (s.bk i.toNat)).1 (s.bk i.toNat), (tryB s.d (s.bk i.toNat)).2))
      else ({ s with r := i }, 0)) := show _ = _ from rfl
  generalize startSr s i = res at *
  by_cases h0 : i < 0
  · have HR : Hid (res = (s, 80)) := by show _ = _; rw [HSS.out, if_pos (.inl h0)]
    have q0 : decide (i < 0) = true := decide_eq_true h0
    clear HSS
    go_enter Try.func46, Try.ntmps46
    go_wp2_with fail
    go_ret
    rw [HR.out]
    exact ⟨rfl, hs, Keep.refl _ _⟩
  by_cases h1 : 1 < i
  · have HR : Hid (res = (s, 80)) := by show _ = _; rw [HSS.out, if_pos (.inr h1)]
    have q0 : decide (i < 0) = false := decide_eq_false h0
    have q1 : decide (1 < i) = true := decide_eq_true h1
    clear HSS
    go_enter Try.func46, Try.ntmps46
    go_wp2_with fail
    go_ret
    rw [HR.out]
    exact ⟨rfl, hs, Keep.refl _ _⟩
  obtain ⟨j, rfl⟩ : ∃ j : Nat, i = (j : Int) := ⟨i.toNat, by omega⟩
  have hj : j < 2 := by omega
  have HSS2 := HSS.out
  rw [if_neg (by rintro (e | e); exact h0 e; exact h1 e), Int.toNat_natCast] at HSS2
  replace HSS := Lib.hid HSS2
  have q0 : decide ((j : Int) < 0) = false := decide_eq_false h0
  have q1 : decide ((1 : Int) < (j : Int)) = false := decide_eq_false h1
  have q2 : ((1 : Int) < (j : Int)) = False := eq_false h1
  have q3 : (0 : Int) ≤ (j : Int) := by omega
  have q4 : (j : Int) < 2 := by omega
  have q5 : (1 < j) = False := eq_false (by omega)
  clear HSS2 h0 h1
  have HCD := Lib.hid (scand_any v s w j hj hs ho)
  have HS := Lib.hid hs
  have HO := Lib.hid ho
  clear hs ho
  go_enter Try.func46, Try.ntmps46
  go_upto_region 3 with fail
  clear q0 q1 q2 q5
  go_wp2_with fail
  refine HCD.out.mono ?_
  intro e w1 h1
  obtain ⟨cs, okb, tr, hx, hl4, h2, k1, hcc, hone⟩ : ∃ (cs : List Value) (okb tr : Bool), e = .returned (.tuple #[.agg cs.toArray, .bool okb]) ∧ cs.length = 4 ∧ cs.toArray[2]? = some (.bool tr) ∧ Keep [] w w1 ∧ ((okb = false ∧ candS s j = none) ∨ (okb = true ∧ ∃ c, candS s j = some c ∧ c.trial = tr)) ∧ ∀ x ∈ cs, x.oneCell' = true := by
    cases hc : candS s j with
    | none =>
      rw [hc] at h1
      exact ⟨zeroCnd.toList, false, false, h1.1, rfl, rfl, h1.2, .inl ⟨rfl, rfl⟩, by simp [Value.oneCell']⟩
    | some c =>
      rw [hc] at h1
      obtain ⟨A, cap, e1, _, k⟩ := h1
      exact ⟨cndV c A cap, true, c.trial, e1, rfl, rfl, k, .inr ⟨rfl, c, rfl, rfl⟩, by simp [cndV, Value.oneCell']⟩
  subst hx
  have HCC := Lib.hid hcc
  clear h1 hcc HCD
  go_wp2_with (refine stop_store 107 (.tmp 5) (.tmp 18) rfl ?_)
  constructor
  refine wpList_store_all rfl 107 (.tmp 5) (.tmp 18) rfl rfl rfl (t := 107) (cs := zeroCnd) (vs := cs) (by rw [hl4]; exact agg_cnd.2) (Blk.new _ _ _) hone (by rw [hl4]; rfl) ?_
  intro w2 d2 k2
  have K2 : Keep [] w w2 := k1.then (((Keep.refl [] w1).alloc _).trans k2 (fun y hy hl => by simp only [List.mem_cons, List.not_mem_nil, or_false] at hy; omega))
  have c2 : w2.cell? ⟨w1.heap.size, 2, none⟩ = some (.bool tr) := (d2.cell 2).trans h2
  have HS2 := Lib.hid (HS.out.keep0 K2)
  have HK2 := Lib.hid K2
  obtain ⟨g0, g1, g2, g3⟩ := HS2.out.cells
  have HON := Lib.hid (fon_any v.g v.b1 v.b2 s.d w2 HS2.out.dev)
  generalize w1.heap.size = B5 at *
  clear d2 k2 k1 K2 h2 hone hl4
  go_wp2_with fail
  refine HON.out.mono ?_
  rintro e w3 ⟨rfl, rfl⟩
  clear HON
  cases hon : s.d.on with
  | false =>
    have HR : Hid (res = (s, 63)) := by show _ = _; rw [HSS.out, if_pos hon]
    clear HSS HCC
    go_wp2_with fail
    go_ret
    rw [HR.out]
    exact ⟨rfl, HS2.out, HK2.out.mono (by simp)⟩
  | true =>
    have HSS2 := HSS.out
    rw [if_neg (by rw [hon]; decide)] at HSS2
    rcases HCC.out with ⟨rfl, hc⟩ | ⟨rfl, c, hc, rfl⟩
    · have HR : Hid (res = (s, 80)) := by show _ = _; rw [HSS2, hc]
      clear HSS HCC HSS2 hc
      go_wp2_with fail
      go_ret
      rw [HR.out]
      exact ⟨rfl, HS2.out, HK2.out.mono (by simp)⟩
    · rw [hc] at HSS2
      replace HSS := Lib.hid HSS2
      clear HSS2 HCC hc hon
      have gB := HS2.out.cellB hj
      cases htr : c.trial with
      | false =>
        have HR : Hid (res = ({ s with r := (j : Int) }, 0)) := by
          show _ = _
          rw [HSS.out]
          show (if c.trial = true then _ else _) = _
          rw [if_neg (by rw [htr]; decide)]
        rw [htr] at c2
        have gf := HS2.out.st.frozen 3
        have gl := HS2.out.st.lt
        obtain ⟨s1, s2⟩ := HS2.out.setRun (j : Int)
        have HF1 := Lib.hid s1
        have HF2 := Lib.hid s2
        clear HSS s1 s2
        go_wp2_with fail
        go_ret
        rw [HR.out]
        exact ⟨rfl, HF1.out, Keep.trans (HK2.out.mono (G := v.all) (by simp)) HF2.out (fun y hy _ => gs_mem v y hy)⟩
      | true =>
        rw [htr] at c2
        have HSS2 : res = if (tryB s.d (s.bk j)).2 = 0 then ({ s.put j (tryB s.d (s.bk j)).1 (s.bk j) with r := (j : Int) }, 0) else (s.put j (tryB s.d (s.bk j)).1 (s.bk j), (tryB s.d (s.bk j)).2) := by
          rw [HSS.out]
          show (if c.trial = true then _ else _) = _
          rw [if_pos htr]
        have HTR := Lib.hid (btry_any (v.gb j) v.g v.b1 v.b2 s.d (s.bk j) w2 (HS2.out.bank j) HS2.out.dev HO.out.ok (HO.out.bk hj))
        replace HSS := Lib.hid HSS2
        clear HSS2
        generalize tryB s.d (s.bk j) = r at *
        obtain ⟨d', n⟩ := r
        dsimp only at HTR HSS
        go_wp2_with fail
        refine HTR.out.mono ?_
        rintro e w4 ⟨rfl, l4⟩
        obtain ⟨hs4, k4⟩ := HS2.out.call hj l4
        have HS4 := Lib.hid hs4
        have HK4 : Hid (Keep v.all w w4) := Keep.trans (HK2.out.mono (by simp)) k4 (fun y hy _ => hy)
        clear l4 hs4 k4 HTR HS2 c2 g0 g1 g2 g3 gB
        by_cases hn : n = 0
        · have HR : Hid (res = ({ s.put j d' (s.bk j) with r := (j : Int) }, 0)) := by show _ = _; rw [HSS.out, if_pos hn]
          subst hn
          obtain ⟨g0, g1, g2, g3⟩ := HS4.out.cells
          have gf := HS4.out.st.frozen 3
          have gl := HS4.out.st.lt
          obtain ⟨s1, s2⟩ := HS4.out.setRun (j : Int)
          have HF1 := Lib.hid s1
          have HF2 := Lib.hid s2
          clear HSS s1 s2
          go_wp2_with fail
          go_ret
          rw [HR.out]
          exact ⟨rfl, HF1.out, HK4.out.trans HF2.out (fun y hy _ => gs_mem v y hy)⟩
        · have HR : Hid (res = (s.put j d' (s.bk j), n)) := by show _ = _; rw [HSS.out, if_neg hn]
          have q6 : (n == 0) = false := beq_eq_false_iff_ne.2 hn
          have q7 : (n = 0) = False := eq_false hn
          clear HSS
          go_wp2_with fail
          go_ret
          rw [HR.out]
          exact ⟨rfl, HS4.out, HK4.out⟩

def nextN (s : StS) : Nat := max (max 0 (stateB s.d s.x0).seq) (stateB s.d s.x1).seq
theorem seq_lt {d : Dev} (ho : d.Ok) (b : BkS) : (stateB d b).seq < 4294967296 := by
  unfold stateB
  split
  · show 0 < 4294967296; decide
  · unfold headH
    dsimp only
    split
    · exact atH_lt (sectL_lt ho _) 0
    · decide
def RetNext (w : World) (n : Nat) (e : Ending) (w' : World) : Prop := e = .returned (.tuple #[.int .u32 ((if 2147483648 ≤ n then 0 else n + 1 : Nat) : Int), .int .i64 (if 2147483648 ≤ n then 82 else 0)]) ∧ Keep [] w w'
theorem run_maxU {P : Program} {w : World} {ev : Operand → Value} {x y : Operand} {m n : Nat} {dst : Option Tmp} {ats : Array TypeId} {tyy : TypeId} {pos : String} {after : Array Edge} {gd : Option (Nat × Bool)} (hx : ev x = .int .u32 (m : Int)) (hy : ev y = .int .u32 (n : Int)) :
    (execOp ev ⟨dst, .call { callee := .builtin .max, args := #[x, y], argTypes := ats }, tyy, pos, after, gd⟩).run P w = .ok (.value (.int .u32 ((max m n : Nat) : Int))) w := by
  rcases Nat.lt_or_ge m n with h | h
  · rw [show max m n = n by omega]
    have h1 : decide ((m : Int) < (n : Int)) = true := decide_eq_true (by omega)
    simp [go_sem, hx, hy, h]
  · rw [show max m n = m by omega]
    have h3 : ¬ (m : Int) < (n : Int) := by omega
    have h4 : ¬ m < n := by omega
    simp [go_sem, hx, hy, h4]
theorem agg_banks : AggOf Try.prog 150 2 := ⟨by kernel_rfl, by kernel_rfl⟩
set_option maxRecDepth 100000 in
set_option maxHeartbeats 2000000 in
theorem snext_any (hs : SrAt w v s) (ho : SrOk s) : Calls Try.prog 94 #[.pointer (some ⟨v.gs, 0, none⟩)] w (RetNext w (nextN s)) := by
  have HS0 := fun W (k : Keep [] w W) => Lib.hid (bstate_any v.gb0 v.g v.b1 v.b2 s.d s.x0 W (hs.keep0 k).bk0 (hs.keep0 k).dev ho.ok (ho.bk (i := 0) (by decide)))
  have HS1 := fun W (k : Keep [] w W) => Lib.hid (bstate_any v.gb1 v.g v.b1 v.b2 s.d s.x1 W (hs.keep0 k).bk1 (hs.keep0 k).dev ho.ok (ho.bk (i := 1) (by decide)))
  have hq0 := seq_lt ho.ok s.x0
  have hq1 := seq_lt ho.ok s.x1
  have HN : Hid (nextN s = max (max 0 (stateB s.d s.x0).seq) (stateB s.d s.x1).seq) := show _ = _ from rfl
  have hcb : CellsAt w v.gs 1 [.pointer (some ⟨v.gb0, 0, none⟩), .pointer (some ⟨v.gb1, 0, none⟩)] := fun i u hu => by
    obtain ⟨_, c1, c2, _⟩ := hs.cells
    rcases i with _ | _ | i
    · cases hu; exact c1
    · cases hu; exact c2
    · cases hu
  generalize stateB s.d s.x0 = h0 at *
  generalize stateB s.d s.x1 = h1 at *
  generalize nextN s = N at *
  have HCB := Lib.hid hcb
  clear hs ho hcb
  go_enter Try.func94, Try.ntmps94
  go_upto_region 2 with fail
  go_wp2_with (refine stop_load 150 (.tmp 9) rfl ?_)
  constructor
  refine wpList_load_agg rfl 150 (.tmp 9) rfl rfl (f := 1) (cs := [.pointer (some ⟨v.gb0, 0, none⟩), .pointer (some ⟨v.gb1, 0, none⟩)]) agg_banks HCB.out ?_
  go_wp2_with fail
  go_loopw [4, 6, 11] (fun v4 v6 v11 wr => Keep [] w wr ∧ ((v11 = .int .i64 0 ∧ v4 = .int .u32 0) ∨ (v11 = .int .i64 1 ∧ v4 = .int .u32 ((max 0 h0.seq : Nat) : Int)) ∨ (v11 = .int .i64 2 ∧ v4 = .int .u32 ((N : Nat) : Int)))) (fun _ _ v11 _ => 2 - (intOf v11).toNat)
  case atStart => exact ⟨Keep.refl _ _, .inl ⟨rfl, rfl⟩⟩
  case round =>
    obtain ⟨hk, hor⟩ := hrel
    have HK := Lib.hid hk
    clear hk
    rcases hor with ⟨rfl, rfl⟩ | ⟨rfl, rfl⟩ | ⟨rfl, rfl⟩
    · go_upto_region 4 with fail
      go_wp2_with (refine stop_at 13 rfl ?_)
      constructor
      refine wpList_runsS rfl (v := .pointer (some ⟨v.gb0, 0, none⟩)) (w' := wr) (by kernel_rfl) ?_
      (simp only [Act.put, List.setIfInBounds_toArray, List.set_cons_zero, List.set_cons_succ])
      go_wp2_with fail
      refine (HS0 wr HK.out).out.mono ?_
      rintro e w1 ⟨rfl, k1⟩
      have HK1 := Lib.hid (HK.out.then k1)
      clear k1 HS0 HS1 HCB
      go_wp2_with (refine stop_at 17 rfl ?_)
      constructor
      refine wpList_runsS rfl (v := .agg #[.int .u32 (h0.seq : Int), .int .u32 (h0.long : Int), .int .u32 (h0.check : Int)]) (w' := w1) (by kernel_rfl) ?_
      (simp only [Act.put, List.setIfInBounds_toArray, List.set_cons_zero, List.set_cons_succ])
      refine wpList_runsS rfl (v := .int .u32 (h0.seq : Int)) (w' := w1) (by kernel_rfl) ?_
      (simp only [Act.put, List.setIfInBounds_toArray, List.set_cons_zero, List.set_cons_succ])
      refine wpList_runsS rfl (v := .int .u32 ((max 0 h0.seq : Nat) : Int)) (w' := w1) (run_maxU rfl rfl) ?_
      (simp only [Act.put, List.setIfInBounds_toArray, List.set_cons_zero, List.set_cons_succ])
      go_wp2_with fail
      go_roundw
      case rel => exact ⟨HK1.out, .inr (.inl ⟨by go_num, rfl⟩)⟩
      case measure => simp [intOf]
    · go_upto_region 4 with fail
      go_wp2_with (refine stop_at 13 rfl ?_)
      constructor
      refine wpList_runsS rfl (v := .pointer (some ⟨v.gb1, 0, none⟩)) (w' := wr) (by kernel_rfl) ?_
      (simp only [Act.put, List.setIfInBounds_toArray, List.set_cons_zero, List.set_cons_succ])
      go_wp2_with fail
      refine (HS1 wr HK.out).out.mono ?_
      rintro e w1 ⟨rfl, k1⟩
      have HK1 := Lib.hid (HK.out.then k1)
      clear k1 HS0 HS1 HCB
      go_wp2_with (refine stop_at 17 rfl ?_)
      constructor
      refine wpList_runsS rfl (v := .agg #[.int .u32 (h1.seq : Int), .int .u32 (h1.long : Int), .int .u32 (h1.check : Int)]) (w' := w1) (by kernel_rfl) ?_
      (simp only [Act.put, List.setIfInBounds_toArray, List.set_cons_zero, List.set_cons_succ])
      refine wpList_runsS rfl (v := .int .u32 (h1.seq : Int)) (w' := w1) (by kernel_rfl) ?_
      (simp only [Act.put, List.setIfInBounds_toArray, List.set_cons_zero, List.set_cons_succ])
      refine wpList_runsS rfl (v := .int .u32 ((max (max 0 h0.seq) h1.seq : Nat) : Int)) (w' := w1) (run_maxU rfl rfl) ?_
      (simp only [Act.put, List.setIfInBounds_toArray, List.set_cons_zero, List.set_cons_succ])
      go_wp2_with fail
      go_roundw
      case rel => exact ⟨HK1.out, .inr (.inr ⟨by go_num, by rw [HN.out]⟩)⟩
      case measure => simp [intOf]
    · have HNL : Hid (N < 4294967296) := by show _ < _; rw [HN.out]; omega
      clear HS0 HS1 HCB HN
      unfold RetNext
      by_cases hb : 2147483648 ≤ N
      · have q0 : decide ((2147483648 : Int) ≤ (N : Int)) = true := decide_eq_true (by omega)
        have q1 := eq_true hb
        go_wp2_with fail
        go_ret2
        exact ⟨by rw [if_pos hb, if_pos hb]; rfl, HK.out⟩
      · have q0 : decide ((2147483648 : Int) ≤ (N : Int)) = false := decide_eq_false (by omega)
        have q1 := eq_false hb
        have q2 : IntKind.u32.wrap ((N : Int) + 1) = ((N + 1 : Nat) : Int) := IntWalk.u32_in _ (by omega)
        go_wp2_with fail
        go_ret2
        exact ⟨by rw [if_neg hb, if_neg hb]; rfl, HK.out⟩
end
end Go.Proofs.Yteanpgkonhdbpaa

namespace Go.Proofs.Yteanpgkonhdbpaa
open Go.RowKit

def commitSr (s : StS) : StS × Int :=
  if othE s = 0 then
    (if (s.bk (othI s)).opn = false ∨ (s.bk (othI s)).pn = 0 then (s, 80)
    else if 2147483648 ≤ nextN s then (s, 82)
    else (s.put (othI s) (commitB s.d (s.bk (othI s)) (nextN s + 1)).1 (commitB s.d (s.bk (othI s)) (nextN s + 1)).2.1, (commitB s.d (s.bk (othI s)) (nextN s + 1)).2.2))
  else (s, othE s)
theorem commitSr_ok {s : StS} (ho : SrOk s) : SrOk (commitSr s).1 := by
  unfold commitSr
  split
  · rename_i h
    split
    · exact ho
    · split
      · exact ho
      · obtain ⟨a1, a2, a3⟩ := commit_fine (d := s.d) (ho.fine (othI s)) (nextN s + 1)
        obtain ⟨b1, b2⟩ := commitB_ok ho.ok (s.bk (othI s)) (q := nextN s + 1) (by omega) (by have := (ho.fine (othI s)).pn; omega) (ho.fine (othI s)).s
        exact ho.put (othI_lt ho h) b1 b2 a1 a2 a3
  · exact ho
def confirmSr (s : StS) : StS × Int :=
  if s.r < 0 then (s, 80) else (s.put s.r.toNat (confirmB s.d (s.bk s.r.toNat)).1 (s.bk s.r.toNat), (confirmB s.d (s.bk s.r.toNat)).2)
theorem confirmSr_ok {s : StS} (ho : SrOk s) : SrOk (confirmSr s).1 := by
  unfold confirmSr
  split
  · exact ho
  · have := ho.run
    obtain ⟨b1, b2⟩ := confirmB_ok ho.ok (s.bk s.r.toNat)
    exact ho.put (by omega) b1 b2 rfl rfl (ho.fine _)

section
variable (v : StW) (s : StS) (w : World)
def stagedV (s : StS) : Value := if othE s = 0 then .tuple #[.int .i64 ((s.bk (othI s)).pn : Int), .bool (s.bk (othI s)).opn] else .tuple #[.int .i64 0, .bool false]
set_option maxRecDepth 100000 in
set_option maxHeartbeats 1000000 in
theorem sstaged_any (hs : SrAt w v s) (ho : SrOk s) : Calls Try.prog 58 #[.pointer (some ⟨v.gs, 0, none⟩)] w fun e w' => e = .returned (stagedV s) ∧ Keep [] w w' := by
  have HOT := Lib.hid (sother_any v s w hs ho)
  have HS := Lib.hid hs
  have HO := Lib.hid ho
  have HBS : Hid (stagedV s = if othE s = 0 then .tuple #[.int .i64 ((s.bk (othI s)).pn : Int), .bool (s.bk (othI s)).opn] else .tuple #[.int .i64 0, .bool false]) := show _ = _ from rfl
  have HPP : Hid (othP v s = if othE s = 0 then .pointer (some ⟨v.gb (othI s), 0, none⟩) else .pointer none) := show _ = _ from rfl
  generalize stagedV s = res at *
  clear hs ho
  by_cases h0 : othE s = 0
  · have HB := fun W (k : Keep [] w W) => Lib.hid (bopen_any (v.gb (othI s)) v.g (s.bk (othI s)) W ((HS.out.keep0 k).bank _))
    have HR : Hid (res = .tuple #[.int .i64 ((s.bk (othI s)).pn : Int), .bool (s.bk (othI s)).opn]) := by show _ = _; rw [HBS.out, if_pos h0]
    rw [h0, if_pos rfl] at HPP
    rw [HPP.out, h0] at HOT
    clear HBS HPP h0
    generalize s.bk (othI s) = b at *
    generalize othI s = i at *
    go_enter Try.func58, Try.ntmps58
    go_wp2_with fail
    refine HOT.out.mono ?_
    rintro e w1 ⟨rfl, k1⟩
    clear HOT
    go_wp2_with fail
    refine (HB w1 k1).out.mono ?_
    rintro e w2 ⟨rfl, k2⟩
    clear HB
    go_wp2_with fail
    go_ret2
    rw [HR.out]
    exact ⟨rfl, k1.then k2⟩
  · have HR : Hid (res = .tuple #[.int .i64 0, .bool false]) := by show _ = _; rw [HBS.out, if_neg h0]
    rw [if_neg h0] at HPP
    rw [HPP.out] at HOT
    clear HBS HPP
    generalize othE s = oe at *
    have q0 : (oe == 0) = false := beq_eq_false_iff_ne.2 h0
    have q1 : (oe = 0) = False := eq_false h0
    go_enter Try.func58, Try.ntmps58
    go_wp2_with fail
    refine HOT.out.mono ?_
    rintro e w1 ⟨rfl, k1⟩
    clear HOT
    go_wp2_with fail
    go_ret2
    rw [HR.out]
    exact ⟨rfl, k1⟩
set_option maxRecDepth 100000 in
set_option maxHeartbeats 2000000 in
theorem scommit_any (hs : SrAt w v s) (ho : SrOk s) : Calls Try.prog 59 #[.pointer (some ⟨v.gs, 0, none⟩)] w (RetSr w v (commitSr s).1 (commitSr s).2) := by
  have HOT := Lib.hid (sother_any v s w hs ho)
  have HS := Lib.hid hs
  have HO := Lib.hid ho
  have HNX := fun W (k : Keep [] w W) => Lib.hid (snext_any v s W (hs.keep0 k) ho)
  have HBS : Hid (commitSr s = if othE s = 0 then
    (if (s.bk (othI s)).opn = false ∨ (s.bk (othI s)).pn = 0 then (s, 80)
    else if 2147483648 ≤ nextN s then (s, 82)
    else (s.put (othI s) (commitB s.d (s.bk (othI s)) (nextN s + 1)).1 (commitB s.d (s.bk (othI s)) (nextN s + 1)).2.1, (commitB s.d (s.bk (othI s)) (nextN s + 1)).2.2))
  else (s, othE s)) := show _ = _ from rfl
  have HPP : Hid (othP v s = if othE s = 0 then .pointer (some ⟨v.gb (othI s), 0, none⟩) else .pointer none) := show _ = _ from rfl
  generalize commitSr s = res at *
  clear hs ho
  by_cases h0 : othE s = 0
  · have hi2 := othI_lt HO.out h0
    have HB := fun W (k : Keep [] w W) => Lib.hid (bopen_any (v.gb (othI s)) v.g (s.bk (othI s)) W ((HS.out.keep0 k).bank _))
    have HC := fun (hq : nextN s + 1 < 4294967296) W (k : Keep [] w W) => Lib.hid (bcommit_any (v.gb (othI s)) v.g v.b1 v.b2 s.d (s.bk (othI s)) (nextN s + 1) W ((HS.out.keep0 k).bank _) (HS.out.keep0 k).dev HO.out.ok (HO.out.bk hi2) (by have := (HO.out.fine (othI s)).pn; omega) (HO.out.fine (othI s)).s hq)
    rw [h0, if_pos rfl] at HPP
    rw [HPP.out, h0] at HOT
    have HR0 := HBS.out
    rw [if_pos h0] at HR0
    replace HBS := Lib.hid HR0
    clear HPP h0 HR0
    generalize hbk : s.bk (othI s) = b at *
    generalize othI s = i at *
    generalize commitB s.d b (nextN s + 1) = r at *
    obtain ⟨d', b', n⟩ := r
    dsimp only at HC HBS
    generalize nextN s = N at *
    go_enter Try.func59, Try.ntmps59
    go_wp2_with fail
    refine HOT.out.mono ?_
    rintro e w1 ⟨rfl, k1⟩
    clear HOT
    go_wp2_with fail
    refine (HB w1 k1).out.mono ?_
    rintro e w2 ⟨rfl, k2⟩
    have HK2 := Lib.hid (k1.then k2)
    clear HB k1 k2
    cases hop : b.opn with
    | false =>
      have HR : Hid (res = (s, 80)) := by show _ = _; rw [HBS.out, if_pos (.inl hop)]
      clear HBS HC
      go_wp2_with fail
      go_ret
      rw [HR.out]
      exact ⟨rfl, HS.out.keep0 HK2.out, HK2.out.mono (by simp)⟩
    | true =>
      by_cases hpn : b.pn = 0
      · have HR : Hid (res = (s, 80)) := by show _ = _; rw [HBS.out, if_pos (.inr hpn)]
        rw [hpn]
        clear HBS HC
        go_wp2_with fail
        go_ret
        rw [HR.out]
        exact ⟨rfl, HS.out.keep0 HK2.out, HK2.out.mono (by simp)⟩
      · have q0 : ((b.pn : Int) == 0) = false := beq_eq_false_iff_ne.2 (by omega)
        have q1 : (b.pn = 0) = False := eq_false hpn
        have q2 : ((b.pn : Int) = 0) = False := eq_false (by omega)
        have HR0 := HBS.out
        rw [if_neg (by rintro (e | e); (rw [hop] at e; cases e); exact hpn e)] at HR0
        replace HBS := Lib.hid HR0
        clear HR0 hpn
        go_wp2_with fail
        refine (HNX w2 HK2.out).out.mono ?_
        rintro e w3 ⟨hx, k3⟩
        subst hx
        have HK3 := Lib.hid (HK2.out.then k3)
        clear HNX k3 q0 q1 q2
        by_cases hb : 2147483648 ≤ N
        · have HR : Hid (res = (s, 82)) := by show _ = _; rw [HBS.out, if_pos hb]
          rw [if_pos hb, if_pos hb]
          clear HBS HC hb
          go_wp2_with fail
          go_ret
          rw [HR.out]
          exact ⟨rfl, HS.out.keep0 HK3.out, HK3.out.mono (by simp)⟩
        · have HR : Hid (res = (s.put i d' b', n)) := by show _ = _; rw [HBS.out, if_neg hb]
          have HC3 := HC (by omega) w3 HK3.out
          rw [if_neg hb, if_neg hb]
          clear HBS HC hb
          generalize N + 1 = N1 at *
          go_wp2_with fail
          refine HC3.out.mono ?_
          rintro e w4 ⟨rfl, l4⟩
          clear HC3
          go_wp2_with fail
          go_ret
          rw [HR.out]
          obtain ⟨h1, h2⟩ := (HS.out.keep0 HK3.out).call hi2 l4
          exact ⟨rfl, h1, Keep.trans (HK3.out.mono (by simp)) h2 (fun y hy _ => hy)⟩
  · have HR : Hid (res = (s, othE s)) := by show _ = _; rw [HBS.out, if_neg h0]
    rw [if_neg h0] at HPP
    rw [HPP.out] at HOT
    clear HBS HPP HNX
    generalize othE s = oe at *
    have q0 : (oe == 0) = false := beq_eq_false_iff_ne.2 h0
    have q1 : (oe = 0) = False := eq_false h0
    go_enter Try.func59, Try.ntmps59
    go_wp2_with fail
    refine HOT.out.mono ?_
    rintro e w1 ⟨rfl, k1⟩
    clear HOT
    go_wp2_with fail
    go_ret
    rw [HR.out]
    exact ⟨rfl, HS.out.keep0 k1, k1.mono (by simp)⟩
set_option maxRecDepth 100000 in
set_option maxHeartbeats 1000000 in
theorem sconfirm_any (hs : SrAt w v s) (ho : SrOk s) : Calls Try.prog 47 #[.pointer (some ⟨v.gs, 0, none⟩)] w (RetSr w v (confirmSr s).1 (confirmSr s).2) := by
  have HS := Lib.hid hs
  have HBS : Hid (confirmSr s = if s.r < 0 then (s, 80) else (s.put s.r.toNat (confirmB s.d (s.bk s.r.toNat)).1 (s.bk s.r.toNat), (confirmB s.d (s.bk s.r.toNat)).2)) := show _ = _ from rfl
  generalize confirmSr s = res at *
  obtain ⟨c0, c1, c2, c3⟩ := hs.cells
  by_cases h0 : s.r < 0
  · have HR : Hid (res = (s, 80)) := by show _ = _; rw [HBS.out, if_pos h0]
    have q0 : decide (s.r < 0) = true := decide_eq_true h0
    have q1 := eq_true h0
    clear HBS hs
    go_enter Try.func47, Try.ntmps47
    go_wp2_with fail
    go_ret
    rw [HR.out]
    exact ⟨rfl, HS.out, Keep.refl _ _⟩
  · have hr := ho.run
    have hi2 : s.r.toNat < 2 := by omega
    have hrc : s.r = ((s.r.toNat : Nat) : Int) := by omega
    have HC := fun W (k : Keep [] w W) => Lib.hid (bconfirm_any (v.gb s.r.toNat) v.g v.b1 v.b2 s.d (s.bk s.r.toNat) W ((hs.keep0 k).bank _) (hs.keep0 k).dev ho.ok (ho.bk hi2))
    have HR : Hid (res = (s.put s.r.toNat (confirmB s.d (s.bk s.r.toNat)).1 (s.bk s.r.toNat), (confirmB s.d (s.bk s.r.toNat)).2)) := by show _ = _; rw [HBS.out, if_neg h0]
    have hF : ∀ W, Keep [] w W → W.cell? ⟨v.gs, 3, none⟩ = some (.int .i64 ((s.r.toNat : Nat) : Int)) ∧ W.cell? ⟨v.gs, 1 + s.r.toNat, none⟩ = some (.pointer (some ⟨v.gb s.r.toNat, 0, none⟩)) := fun W k => ⟨by rw [(hs.keep0 k).cells.2.2.2, ← hrc], (hs.keep0 k).cellB hi2⟩
    have c3' : w.cell? ⟨v.gs, 3, none⟩ = some (.int .i64 ((s.r.toNat : Nat) : Int)) := (hF w (Keep.refl _ _)).1
    have q0 : decide (((s.r.toNat : Nat) : Int) < 0) = false := decide_eq_false (by omega)
    have q1 : (0 : Int) ≤ ((s.r.toNat : Nat) : Int) := by omega
    have q2 : ((s.r.toNat : Nat) : Int) < 2 := by omega
    clear c0 c1 c2 c3 HBS h0 hr hrc hs ho
    generalize s.r.toNat = j at *
    generalize confirmB s.d (s.bk j) = r at *
    obtain ⟨d', n⟩ := r
    dsimp only at HC HR
    go_enter Try.func47, Try.ntmps47
    go_upto_region 3 with fail
    refine wp_region_flow_tail 9 (Keep [] w) rfl (by kernel_rfl) (Keep.refl _ _).drew ?_
    iterate 9 (refine fl_val (v := ?_) (by rfl) ?_ ?_; rotate_left; (intro w' hS; obtain ⟨f0,f1⟩ := hF w' hS; go_simp; with_reducible rfl); simp only [Act.put, List.setIfInBounds_toArray, List.set_cons_zero, List.set_cons_succ])
    refine fl_nil ?_
    intro w1 hS
    go_wp2_with fail
    refine (HC w1 hS).out.mono ?_
    rintro e w2 ⟨rfl, l2⟩
    clear HC hF
    go_wp2_with fail
    go_ret
    rw [HR.out]
    obtain ⟨h1, h2⟩ := (HS.out.keep0 hS).call hi2 l2
    exact ⟨rfl, h1, Keep.trans (hS.mono (by simp)) h2 (fun y hy _ => hy)⟩
end
end Go.Proofs.Yteanpgkonhdbpaa

namespace Go.Proofs.Yteanpgkonhdbpaa
open Go.RowKit

def beg0S (s : StS) : StS × Int := (s.put 0 (beginB s.d s.x0).1 (beginB s.d s.x0).2.1, (beginB s.d s.x0).2.2)
def put0S (s : StS) (l : List Nat) : StS × Int := (s.put 0 (putB s.d s.x0 l).1 (putB s.d s.x0 l).2.1, (putB s.d s.x0 l).2.2)
def com0S (s : StS) : StS × Int := (s.put 0 (commitB s.d s.x0 1).1 (commitB s.d s.x0 1).2.1, (commitB s.d s.x0 1).2.2)
def cnf0S (s : StS) : StS × Int := (s.put 0 (confirmB s.d s.x0).1 s.x0, (confirmB s.d s.x0).2)
def installSr (s : StS) (l : List Nat) : StS × Int :=
  if 0 ≤ s.r then (s, 80)
  else if (beg0S s).2 ≠ 0 then beg0S s
  else if (put0S (beg0S s).1 l).2 ≠ 0 then put0S (beg0S s).1 l
  else if (com0S (put0S (beg0S s).1 l).1).2 ≠ 0 then com0S (put0S (beg0S s).1 l).1
  else cnf0S (com0S (put0S (beg0S s).1 l).1).1
theorem beg0S_ok {s : StS} (ho : SrOk s) : SrOk (beg0S s).1 := by
  obtain ⟨a1, a2, a3⟩ := begin_fine (d := s.d) ho.fine0
  obtain ⟨b1, b2⟩ := beginB_ok ho.ok s.x0
  exact ho.put (i := 0) (by decide) b1 b2 a1 a2 a3
theorem put0S_ok {s : StS} (ho : SrOk s) {l : List Nat} (hl : ∀ y ∈ l, y < 4294967296) : SrOk (put0S s l).1 := by
  obtain ⟨a1, a2, a3⟩ := put_fine (d := s.d) ho.fine0 hl
  obtain ⟨b1, b2⟩ := putB_ok ho.ok s.x0 hl
  exact ho.put (i := 0) (by decide) b1 b2 a1 a2 a3
theorem com0S_ok {s : StS} (ho : SrOk s) : SrOk (com0S s).1 := by
  obtain ⟨a1, a2, a3⟩ := commit_fine (d := s.d) ho.fine0 1
  obtain ⟨b1, b2⟩ := commitB_ok ho.ok s.x0 (q := 1) (by decide) (by have := ho.fine0.pn; omega) ho.fine0.s
  exact ho.put (i := 0) (by decide) b1 b2 a1 a2 a3
theorem cnf0S_ok {s : StS} (ho : SrOk s) : SrOk (cnf0S s).1 := by
  obtain ⟨b1, b2⟩ := confirmB_ok ho.ok s.x0
  exact ho.put (i := 0) (by decide) b1 b2 rfl rfl ho.fine0
theorem installSr_ok {s : StS} (ho : SrOk s) {l : List Nat} (hl : ∀ y ∈ l, y < 4294967296) : SrOk (installSr s l).1 := by
  unfold installSr
  split
  · exact ho
  · split
    · exact beg0S_ok ho
    · split
      · exact put0S_ok (beg0S_ok ho) hl
      · split
        · exact com0S_ok (put0S_ok (beg0S_ok ho) hl)
        · exact cnf0S_ok (com0S_ok (put0S_ok (beg0S_ok ho) hl))

section
variable (v : StW) (s : StS) (w : World)
theorem retSr_call {W W' : World} {d' : Dev} {b' : BkS} {n : Int} {e : Ending} (hs : SrAt W v s) (h : e = .returned (.int .i64 n) ∧ LeftB W W' v.gb0 v.g v.b1 v.b2 d' b') : RetSr W v (s.put 0 d' b') n e W' := by
  obtain ⟨h1, h2⟩ := hs.call (i := 0) (by decide) h.2
  exact ⟨h.1, h1, h2⟩
theorem ibegin_any (hs : SrAt w v s) (ho : SrOk s) : Calls Try.prog 69 #[.pointer (some ⟨v.gb0, 0, none⟩)] w (RetSr w v (beg0S s).1 (beg0S s).2) :=
  (bbegin_any v.gb0 v.g v.b1 v.b2 s.d s.x0 w hs.bk0 hs.dev ho.ok (ho.bk (i := 0) (by decide))).mono (fun _ _ h => retSr_call v s hs h)
theorem iput_any (A : Option Addr) (n c : Nat) (l : List Nat) (hs : SrAt w v s) (ho : SrOk s) (hl : l.length = n) (h32 : ∀ y ∈ l, y < 4294967296) (hr : Reads w 1 A n (wordsV l)) (hoff : 0 < n → Off v.all A) (hn : n ≤ 1000000) :
    Calls Try.prog 70 #[.pointer (some ⟨v.gb0, 0, none⟩), .slice A n c] w (RetSr w v (put0S s l).1 (put0S s l).2) :=
  (bput_any v.gb0 v.g v.b1 v.b2 s.d s.x0 w hs.bk0 hs.dev ho.ok (ho.bk (i := 0) (by decide)) (by have := ho.fine0.pn; omega) ho.fine0.s (by have := ho.fine0.m; omega) A n c l hl h32 hr (fun hn0 ad ha => by
      have hm := hoff hn0 ad ha
      unfold StW.all at hm
      simp only [List.mem_cons, List.not_mem_nil, or_false, not_or] at hm
      exact ⟨hm.2.1, hm.2.2.2.1, hm.2.2.2.2.1, hm.2.2.2.2.2⟩) (by omega)).mono (fun _ _ h => retSr_call v s hs h)
theorem icommit_any (hs : SrAt w v s) (ho : SrOk s) : Calls Try.prog 71 #[.pointer (some ⟨v.gb0, 0, none⟩), .int .u32 1] w (RetSr w v (com0S s).1 (com0S s).2) :=
  (bcommit_any v.gb0 v.g v.b1 v.b2 s.d s.x0 1 w hs.bk0 hs.dev ho.ok (ho.bk (i := 0) (by decide)) (by have := ho.fine0.pn; omega) ho.fine0.s (by decide)).mono (fun _ _ h => retSr_call v s hs h)
theorem iconfirm_any (hs : SrAt w v s) (ho : SrOk s) : Calls Try.prog 83 #[.pointer (some ⟨v.gb0, 0, none⟩)] w (RetSr w v (cnf0S s).1 (cnf0S s).2) :=
  (bconfirm_any v.gb0 v.g v.b1 v.b2 s.d s.x0 w hs.bk0 hs.dev ho.ok (ho.bk (i := 0) (by decide))).mono (fun _ _ h => retSr_call v s hs h)

set_option maxRecDepth 100000 in
set_option maxHeartbeats 2000000 in
theorem sinstall_any (A : Option Addr) (n c : Nat) (l : List Nat) (hs : SrAt w v s) (ho : SrOk s) (hl : l.length = n) (h32 : ∀ y ∈ l, y < 4294967296) (hr : Reads w 1 A n (wordsV l)) (hoff : 0 < n → Off v.all A) (hn : n ≤ 1000000) :
    Calls Try.prog 49 #[.pointer (some ⟨v.gs, 0, none⟩), .slice A n c] w (RetSr w v (installSr s l).1 (installSr s l).2) := by
  have HS := Lib.hid hs
  have HBS : Hid (installSr s l = if 0 ≤ s.r then (s, 80) else if (beg0S s).2 ≠ 0 then beg0S s else if (put0S (beg0S s).1 l).2 ≠ 0 then put0S (beg0S s).1 l
  else if (com0S (put0S (beg0S s).1 l).1).2 ≠ 0 then com0S (put0S (beg0S s).1 l).1 else cnf0S (com0S (put0S (beg0S s).1 l).1).1) := show _ = _ from rfl
  generalize installSr s l = res at *
  obtain ⟨c0, c1, c2, c3⟩ := hs.cells
  by_cases h0 : 0 ≤ s.r
  · have HR : Hid (res = (s, 80)) := by show _ = _; rw [HBS.out, if_pos h0]
    have q0 : decide (0 ≤ s.r) = true := decide_eq_true h0
    have q1 := eq_true h0
    clear HBS hs hr hoff
    go_enter Try.func49, Try.ntmps49
    go_wp2_with fail
    go_ret
    rw [HR.out]
    exact ⟨rfl, HS.out, Keep.refl _ _⟩
  have q0 : decide (0 ≤ s.r) = false := decide_eq_false h0
  have q1 := eq_false h0
  have HR0 := HBS.out
  rw [if_neg h0] at HR0
  replace HBS := Lib.hid HR0
  clear HR0
  have HB1 := Lib.hid (ibegin_any v s w hs ho)
  have ho1 := beg0S_ok ho
  have HRD : Hid (∀ W, Keep v.all w W → Reads W 1 A n (wordsV l)) := fun W k => by
    by_cases h0 : 0 < n
    · exact hr.keep k (hoff h0)
    · exact ⟨hr.1, fun h1 => absurd h1 h0⟩
  have HOFF := Lib.hid hoff
  have H32 := Lib.hid h32
  clear hs hr hoff
  generalize beg0S s = r1 at *
  obtain ⟨s1, n1⟩ := r1
  dsimp only at *
  go_enter Try.func49, Try.ntmps49
  go_wp2_with fail
  refine HB1.out.mono ?_
  rintro e w1 ⟨rfl, hs1, k1⟩
  have HS1 := Lib.hid hs1
  have HK1 := Lib.hid k1
  clear hs1 k1 HB1 c0 c1 c2 c3 q0 q1
  by_cases h1 : n1 = 0
  case neg =>
    have HR : Hid (res = (s1, n1)) := by show _ = _; rw [HBS.out, if_pos h1]
    have q2 : (n1 == 0) = false := beq_eq_false_iff_ne.2 h1
    have q3 := eq_false h1
    clear HBS
    go_wp2_with fail
    go_ret
    rw [HR.out]
    exact ⟨rfl, HS1.out, HK1.out⟩
  have HR0 := HBS.out
  rw [if_neg (fun e => e h1)] at HR0
  replace HBS := Lib.hid HR0
  clear HR0
  subst h1
  have HB2 := Lib.hid (iput_any v s1 w1 A n c l HS1.out ho1 hl H32.out (HRD.out w1 HK1.out) HOFF.out hn)
  have ho2 := put0S_ok ho1 H32.out
  clear HRD HOFF H32 ho1
  generalize put0S s1 l = r2 at *
  obtain ⟨s2, n2⟩ := r2
  dsimp only at *
  go_wp2_with fail
  refine HB2.out.mono ?_
  rintro e w2 ⟨rfl, hs2, k2⟩
  have HS2 := Lib.hid hs2
  have HK2 := Lib.hid (HK1.out.trans k2 (fun y hy _ => hy))
  clear hs2 k2 HB2 HS1 HK1
  by_cases h2 : n2 = 0
  case neg =>
    have HR : Hid (res = (s2, n2)) := by show _ = _; rw [HBS.out, if_pos h2]
    have q2 : (n2 == 0) = false := beq_eq_false_iff_ne.2 h2
    have q3 := eq_false h2
    clear HBS
    go_wp2_with fail
    go_ret
    rw [HR.out]
    exact ⟨rfl, HS2.out, HK2.out⟩
  have HR0 := HBS.out
  rw [if_neg (fun e => e h2)] at HR0
  replace HBS := Lib.hid HR0
  clear HR0
  subst h2
  have HB3 := Lib.hid (icommit_any v s2 w2 HS2.out ho2)
  have ho3 := com0S_ok ho2
  clear ho2
  generalize com0S s2 = r3 at *
  obtain ⟨s3, n3⟩ := r3
  dsimp only at *
  go_wp2_with fail
  refine HB3.out.mono ?_
  rintro e w3 ⟨rfl, hs3, k3⟩
  have HS3 := Lib.hid hs3
  have HK3 := Lib.hid (HK2.out.trans k3 (fun y hy _ => hy))
  clear hs3 k3 HB3 HS2 HK2
  by_cases h3 : n3 = 0
  case neg =>
    have HR : Hid (res = (s3, n3)) := by show _ = _; rw [HBS.out, if_pos h3]
    have q2 : (n3 == 0) = false := beq_eq_false_iff_ne.2 h3
    have q3 := eq_false h3
    clear HBS
    go_wp2_with fail
    go_ret
    rw [HR.out]
    exact ⟨rfl, HS3.out, HK3.out⟩
  have HR0 := HBS.out
  rw [if_neg (fun e => e h3)] at HR0
  replace HBS := Lib.hid HR0
  clear HR0
  subst h3
  have HB4 := Lib.hid (iconfirm_any v s3 w3 HS3.out ho3)
  clear ho3
  generalize cnf0S s3 = r4 at *
  obtain ⟨s4, n4⟩ := r4
  dsimp only at *
  go_wp2_with fail
  refine HB4.out.mono ?_
  rintro e w4 ⟨rfl, hs4, k4⟩
  go_wp2_with fail
  go_ret
  rw [HBS.out]
  exact ⟨rfl, hs4, HK3.out.trans k4 (fun y hy _ => hy)⟩
end

/-- A new store. -/
def newSr (d : Dev) : StS := ⟨d, newB 0 (d.ns / 2), newB (d.ns / 2) (d.ns / 2), -1⟩
theorem newSr_ok {d : Dev} (ho : d.Ok) (h6 : 6 ≤ d.ns) (h13 : 13 ≤ d.nw) : SrOk (newSr d) :=
  ⟨ho, h6, h13, rfl, rfl, rfl, rfl, .inl rfl, ⟨Nat.zero_le _, by show 4294967295 < 4294967296; decide, Nat.zero_le _, fun e => (by cases e)⟩, ⟨Nat.zero_le _, by show 4294967295 < 4294967296; decide, Nat.zero_le _, fun e => (by cases e)⟩⟩
def RetNewSr (w : World) (g b1 b2 : Nat) (d : Dev) (e : Ending) (w' : World) : Prop :=
  ∃ gs gb0 gb1, e = .returned (.tuple #[.pointer (some ⟨gs, 0, none⟩), .int .i64 0]) ∧ (w.heap.size ≤ gs ∧ w.heap.size ≤ gb0 ∧ w.heap.size ≤ gb1) ∧ SrAt w' ⟨gs, g, gb0, gb1, b1, b2⟩ (newSr d) ∧ Keep [] w w'
set_option maxRecDepth 100000 in
theorem run_build_store (g : Nat) (w : World) :
    (Instr.build 152 #[(0, .pointer (some ⟨g, 0, none⟩)), (2, .int .i64 (-1))]).run Try.prog w = .ok (.agg #[.pointer (some ⟨g, 0, none⟩), .pointer none, .pointer none, .int .i64 (-1)]) w := by
  kernel_rfl
theorem snew_nil (w : World) : Calls Try.prog 41 #[.pointer none] w fun e w' => e = .returned (.tuple #[.pointer none, .int .i64 64]) ∧ w = w' := by
  go_enter Try.func41, Try.ntmps41
  go_wp2_with fail
  go_ret2
  exact ⟨rfl, rfl⟩
set_option maxRecDepth 100000 in
set_option maxHeartbeats 2000000 in
theorem snew_no (g b1 b2 : Nat) (d : Dev) (w : World) (hd : DevAt w g b1 b2 d) (ho : d.Ok) (hno : d.ns < 6 ∨ d.nw < 13) : Calls Try.prog 41 #[.pointer (some ⟨g, 0, none⟩)] w fun e w' => e = .returned (.tuple #[.pointer none, .int .i64 64]) ∧ Keep [] w w' := by
  have hns := ho.ns2
  have HSE := fun W (k : Keep [] w W) => Lib.hid (fsectors_any g b1 b2 d W (hd.keep0 k) ho)
  have HBN := fun W (k : Keep [] w W) => Lib.hid (bnew_no g b1 b2 0 ((d.ns / 2 : Nat) : Int) d W (hd.keep0 k) ho (by omega))
  have hq : (d.ns : Int).tdiv 2 = ((d.ns / 2 : Nat) : Int) := by rw [Int.tdiv_eq_ediv_of_nonneg (by omega)]; norm_cast
  have hw : IntKind.i64.wrap ((d.ns / 2 : Nat) : Int) = ((d.ns / 2 : Nat) : Int) := IntWalk.i64_in _ (by omega)
  have hb : (d.ns / 2 : Nat) ≤ 32 := by omega
  generalize d.ns / 2 = hf at *
  go_enter Try.func41, Try.ntmps41
  go_upto_region 3 with fail
  go_wp2_with (refine stop_at 12 rfl ?_)
  constructor
  refine wpList_runsS rfl (v := .agg #[.pointer (some ⟨g, 0, none⟩), .pointer none, .pointer none, .int .i64 (-1)]) (w' := w) (by
    have hb := run_build_store g w
    simp only [execOp, Sem.run_bind, List.map_toArray, List.map_cons, List.map_nil]
    change Result.andThen ((Instr.build 152 #[(0, .pointer (some ⟨g, 0, none⟩)), (2, .int .i64 (-1))]).run Try.prog w) _ = _
    rw [hb]
    rfl) ?_
  go_upto_region 4 with fail
  have k0 : Keep [] w (w.alloc (.cells #[.pointer (some ⟨g, 0, none⟩), .pointer none, .pointer none, .int .i64 (-1)] 152)) := (Keep.refl [] w).alloc _
  generalize w.alloc (.cells #[.pointer (some ⟨g, 0, none⟩), .pointer none, .pointer none, .int .i64 (-1)] 152) = W at *
  go_wp2_with fail
  refine (HSE W k0).out.mono ?_
  rintro e w1 ⟨rfl, rfl⟩
  clear HSE
  go_wp2_with fail
  go_loopw [6, 7, 8, 17] (fun v6 v7 v8 v17 wr => v17 = .int .i64 0 ∧ Keep [] w wr) (fun _ _ _ _ _ => 0)
  case atStart => exact ⟨rfl, k0⟩
  case round =>
    obtain ⟨rfl, hk⟩ := hrel
    have HK := Lib.hid hk
    clear hk
    go_wp2_with fail
    refine (HBN wr HK.out).out.mono ?_
    rintro e w2 ⟨rfl, rfl⟩
    clear HBN
    go_wp2_with fail
    go_ret2
    exact ⟨rfl, HK.out⟩
set_option maxRecDepth 100000 in
set_option maxHeartbeats 2000000 in
theorem snew_yes (g b1 b2 : Nat) (d : Dev) (w : World) (hd : DevAt w g b1 b2 d) (ho : d.Ok) (h6 : 6 ≤ d.ns) (h13 : 13 ≤ d.nw) : Calls Try.prog 41 #[.pointer (some ⟨g, 0, none⟩)] w (RetNewSr w g b1 b2 d) := by
  have hns := ho.ns2
  have HSE := fun W (k : Keep [] w W) => Lib.hid (fsectors_any g b1 b2 d W (hd.keep0 k) ho)
  have HB0 := fun W (k : Keep [] w W) => Lib.hid (bnew_yes g b1 b2 0 (d.ns / 2) d W (hd.keep0 k) ho (by omega) (by omega) h13)
  have HB1 := fun W (k : Keep [] w W) => Lib.hid (bnew_yes g b1 b2 (d.ns / 2) (d.ns / 2) d W (hd.keep0 k) ho (by omega) (by omega) h13)
  have hq : (d.ns : Int).tdiv 2 = ((d.ns / 2 : Nat) : Int) := by rw [Int.tdiv_eq_ediv_of_nonneg (by omega)]; norm_cast
  have hw : IntKind.i64.wrap ((d.ns / 2 : Nat) : Int) = ((d.ns / 2 : Nat) : Int) := IntWalk.i64_in _ (by omega)
  have hb : (d.ns / 2 : Nat) ≤ 32 := by omega
  have HD := Lib.hid hd
  have HNS : Hid (newSr d = ⟨d, newB 0 (d.ns / 2), newB (d.ns / 2) (d.ns / 2), -1⟩) := show _ = _ from rfl
  clear hd ho h6 h13
  generalize d.ns / 2 = hf at *
  go_enter Try.func41, Try.ntmps41
  go_upto_region 3 with fail
  go_wp2_with (refine stop_at 12 rfl ?_)
  constructor
  refine wpList_runsS rfl (v := .agg #[.pointer (some ⟨g, 0, none⟩), .pointer none, .pointer none, .int .i64 (-1)]) (w' := w) (by
    have hb := run_build_store g w
    simp only [execOp, Sem.run_bind, List.map_toArray, List.map_cons, List.map_nil]
    change Result.andThen ((Instr.build 152 #[(0, .pointer (some ⟨g, 0, none⟩)), (2, .int .i64 (-1))]).run Try.prog w) _ = _
    rw [hb]
    rfl) ?_
  go_upto_region 4 with fail
  have b0 : Blk (w.alloc (.cells #[.pointer (some ⟨g, 0, none⟩), .pointer none, .pointer none, .int .i64 (-1)] 152)) w.heap.size 152 #[.pointer (some ⟨g, 0, none⟩), .pointer none, .pointer none, .int .i64 (-1)] := Blk.new _ _ _
  have k0 : Keep [] w (w.alloc (.cells #[.pointer (some ⟨g, 0, none⟩), .pointer none, .pointer none, .int .i64 (-1)] 152)) := (Keep.refl [] w).alloc _
  generalize w.alloc (.cells #[.pointer (some ⟨g, 0, none⟩), .pointer none, .pointer none, .int .i64 (-1)] 152) = W at *
  go_wp2_with fail
  refine (HSE W k0).out.mono ?_
  rintro e w1 ⟨rfl, rfl⟩
  clear HSE
  go_wp2_with fail
  go_loopw [6, 7, 8, 17] (fun v6 v7 v8 v17 wr => Keep [] w wr ∧ ((v17 = .int .i64 0 ∧ Blk wr w.heap.size 152 #[.pointer (some ⟨g, 0, none⟩), .pointer none, .pointer none, .int .i64 (-1)]) ∨
    (v17 = .int .i64 1 ∧ ∃ gb0, w.heap.size < gb0 ∧ Blk wr w.heap.size 152 #[.pointer (some ⟨g, 0, none⟩), .pointer (some ⟨gb0, 0, none⟩), .pointer none, .int .i64 (-1)] ∧ BankAt wr gb0 g (newB 0 hf)) ∨
    (v17 = .int .i64 2 ∧ ∃ gb0 gb1, w.heap.size < gb0 ∧ gb0 < gb1 ∧ Blk wr w.heap.size 152 #[.pointer (some ⟨g, 0, none⟩), .pointer (some ⟨gb0, 0, none⟩), .pointer (some ⟨gb1, 0, none⟩), .int .i64 (-1)] ∧ BankAt wr gb0 g (newB 0 hf) ∧ BankAt wr gb1 g (newB hf hf)))) (fun _ _ _ v17 _ => 2 - (intOf v17).toNat)
  case atStart => exact ⟨k0, .inl ⟨rfl, b0⟩⟩
  case round =>
    obtain ⟨hk, hor⟩ := hrel
    have HK := Lib.hid hk
    clear hk b0 k0
    rcases hor with ⟨rfl, hbk⟩ | ⟨rfl, gb0, hlt, hbk, hb0⟩ | ⟨rfl, gb0, gb1, hlt, hlt2, hbk, hb0, hb1⟩
    · have hl := hbk.lt
      go_wp2_with fail
      refine (HB0 wr HK.out).out.mono ?_
      rintro e w2 ⟨gb0, rfl, l2, hb2, k2⟩
      have hbk2 := hbk.keep0 k2
      have gf := hbk2.frozen 1
      have gl := hbk2.lt
      have c1 : w2.cell? ⟨w.heap.size, 1, none⟩ = some (.pointer none) := hbk2.cell 1
      have s1 := hbk2.set_ 1 (.pointer (some ⟨gb0, 0, none⟩))
      have ks := keep_set w2 w.heap.size 1 (.pointer (some ⟨gb0, 0, none⟩))
      have HS1 : Hid (Blk (w2.setCell ⟨w.heap.size, 1, none⟩ (.pointer (some ⟨gb0, 0, none⟩))) w.heap.size 152 #[.pointer (some ⟨g, 0, none⟩), .pointer (some ⟨gb0, 0, none⟩), .pointer none, .int .i64 (-1)]) := s1
      have HB2 : Hid (BankAt (w2.setCell ⟨w.heap.size, 1, none⟩ (.pointer (some ⟨gb0, 0, none⟩))) gb0 g (newB 0 hf)) := Blk.keep hb2 ks (by simp; omega)
      have HK2 : Hid (Keep [] w (w2.setCell ⟨w.heap.size, 1, none⟩ (.pointer (some ⟨gb0, 0, none⟩)))) := (HK.out.then k2).trans ks (fun y hy hl => by simp only [List.mem_cons, List.not_mem_nil, or_false] at hy; omega)
      clear s1 ks hb2 k2 hbk2 hbk HB0 HB1
      go_wp2_with fail
      go_roundw
      case rel => exact ⟨HK2.out, .inr (.inl ⟨by go_num, gb0, by omega, HS1.out, HB2.out⟩)⟩
      case measure => simp [intOf]
    · have hl := hbk.lt
      have hl0 := Blk.lt hb0
      go_wp2_with fail
      refine (HB1 wr HK.out).out.mono ?_
      rintro e w2 ⟨gb1, rfl, l2, hb2, k2⟩
      have hbk2 := hbk.keep0 k2
      have gf := hbk2.frozen 2
      have gl := hbk2.lt
      have c1 : w2.cell? ⟨w.heap.size, 2, none⟩ = some (.pointer none) := hbk2.cell 2
      have s1 := hbk2.set_ 2 (.pointer (some ⟨gb1, 0, none⟩))
      have ks := keep_set w2 w.heap.size 2 (.pointer (some ⟨gb1, 0, none⟩))
      have HS1 : Hid (Blk (w2.setCell ⟨w.heap.size, 2, none⟩ (.pointer (some ⟨gb1, 0, none⟩))) w.heap.size 152 #[.pointer (some ⟨g, 0, none⟩), .pointer (some ⟨gb0, 0, none⟩), .pointer (some ⟨gb1, 0, none⟩), .int .i64 (-1)]) := s1
      have HB2 : Hid (BankAt (w2.setCell ⟨w.heap.size, 2, none⟩ (.pointer (some ⟨gb1, 0, none⟩))) gb1 g (newB hf hf)) := Blk.keep hb2 ks (by simp; omega)
      have HB3 : Hid (BankAt (w2.setCell ⟨w.heap.size, 2, none⟩ (.pointer (some ⟨gb1, 0, none⟩))) gb0 g (newB 0 hf)) := Blk.keep (hb0.keep0 k2) ks (by simp; omega)
      have HK2 : Hid (Keep [] w (w2.setCell ⟨w.heap.size, 2, none⟩ (.pointer (some ⟨gb1, 0, none⟩)))) := (HK.out.then k2).trans ks (fun y hy hl => by simp only [List.mem_cons, List.not_mem_nil, or_false] at hy; omega)
      clear s1 ks hb2 k2 hbk2 hbk HB0 HB1 hb0
      go_wp2_with fail
      go_roundw
      case rel => exact ⟨HK2.out, .inr (.inr ⟨by go_num, gb0, gb1, by omega, by omega, HS1.out, HB3.out, HB2.out⟩)⟩
      case measure => simp [intOf]
    · have HF : Hid (SrAt wr ⟨w.heap.size, g, gb0, gb1, b1, b2⟩ (newSr d)) := by
        show SrAt _ _ _
        rw [HNS.out]
        exact ⟨hbk, HD.out.keep0 HK.out, hb0, hb1, by show gb0 ≠ gb1; omega⟩
      clear HB0 HB1 hbk hb0 hb1
      go_wp2_with fail
      go_ret2
      exact ⟨_, _, _, rfl, ⟨Nat.le_refl _, by omega, by omega⟩, HF.out, HK.out⟩
end Go.Proofs.Yteanpgkonhdbpaa
