/- A mode of pieces, as the document reads it; walked. Condition: short pieces. -/
import Derived.Test.YtoepkhkaifgddaaSrcRk
namespace Go.Proofs.Ytoepkhkaifgddaa
open Go.RowKit

theorem add_bit (s k : Nat) (h : s.testBit k = false) : s + 2 ^ k = s ||| 2 ^ k := by
  have hb : s / 2 ^ k % 2 = 0 := by
    rw [Nat.testBit_eq_decide_div_mod_eq] at h
    simp at h
    omega
  have hr : s % 2 ^ (k + 1) = s % 2 ^ k := by rw [Nat.mod_pow_succ, hb]; simp
  have h1 : s % 2 ^ k < 2 ^ k := Nat.mod_lt _ (Nat.two_pow_pos k)
  have hd := Nat.div_add_mod s (2 ^ (k + 1))
  have hp : 2 ^ (k + 1) = 2 ^ k * 2 := Nat.pow_succ ..
  have hlt : s % 2 ^ k < 2 ^ (k + 1) := by omega
  have hlt2 : s % 2 ^ k + 2 ^ k < 2 ^ (k + 1) := by omega
  have e1 : 2 ^ (k + 1) * (s / 2 ^ (k + 1)) ||| s % 2 ^ k = s := by
    rw [← Nat.two_pow_add_eq_or_of_lt hlt, ← hr]
    exact hd
  have e2 : s % 2 ^ k + 2 ^ k = s % 2 ^ k ||| 2 ^ k := by
    have := Nat.two_pow_add_eq_or_of_lt h1 1
    rw [Nat.mul_one] at this
    rw [Nat.or_comm, ← this, Nat.add_comm]
  have e3 : s + 2 ^ k = 2 ^ (k + 1) * (s / 2 ^ (k + 1)) + (s % 2 ^ k + 2 ^ k) := by
    rw [← Nat.add_assoc, ← hr, hd]
  rw [e3, Nat.two_pow_add_eq_or_of_lt hlt2, e2, ← Nat.or_assoc, e1]
def bitsI : List Int → Nat → Option Nat
  | [], s => some s
  | n :: l, s => if n ≤ 31 ∧ s.testBit n.toNat = false then bitsI l (s ||| 2 ^ n.toNat) else none
theorem numL_cons (p : ByteArray) (ps : List ByteArray) : numL (p :: ps) = if (readP (bytesOf p)).2 = 0 then (numL ps).map ((readP (bytesOf p)).1 :: ·) else none := by
  unfold numL
  by_cases h : (readP (bytesOf p)).2 = 0
  · rw [if_pos h]
    by_cases h2 : ∀ q ∈ ps, (readP (bytesOf q)).2 = 0
    · rw [if_pos h2, if_pos (fun q hq => by rcases List.mem_cons.1 hq with rfl | hq; exact h; exact h2 q hq)]
      rfl
    · rw [if_neg h2, if_neg (fun hh => h2 (fun q hq => hh q (by simp [hq])))]
      rfl
  · rw [if_neg h, if_neg (fun hh => h (hh p (by simp)))]
theorem bitsP_num : ∀ (ps : List ByteArray) (s : Nat), bitsP ps s = (numL ps).bind (fun l => bitsI l s)
  | [], s => by simp [bitsP, numL, valsL, bitsI]
  | p :: ps, s => by
    rw [numL_cons, bitsP]
    unfold bitP
    by_cases h : (readP (bytesOf p)).2 = 0
    · rw [if_pos h]
      by_cases h2 : (readP (bytesOf p)).1 ≤ 31 ∧ s.testBit (readP (bytesOf p)).1.toNat = false
      · rw [if_pos ⟨h, h2⟩, Option.bind_some, bitsP_num ps]
        cases numL ps with
        | none => rfl
        | some l => simp [bitsI, h2.1, h2.2]
      · rw [if_neg (fun hh => h2 hh.2)]
        cases numL ps with
        | none => rfl
        | some l => simp only [Option.bind_none, Option.map_some, Option.bind_some, bitsI]; rw [if_neg h2]
    · rw [if_neg h, if_neg (fun hh => h hh.1)]
      rfl
theorem numL_ge {ps : List ByteArray} {l : List Int} (h : numL ps = some l) : ∀ n ∈ l, 0 ≤ n := by
  unfold numL at h
  split at h
  · cases h
    intro n hn
    unfold valsL at hn
    obtain ⟨p, _, rfl⟩ := List.mem_map.1 hn
    exact (readP_range _).1
  · cases h
theorem numL_len {ps : List ByteArray} {l : List Int} (h : numL ps = some l) : l.length = ps.length := by
  unfold numL at h
  split at h
  · cases h; simp [valsL]
  · cases h
theorem reads_drop1 {w : World} {A : Option Addr} {ps : List ByteArray} (h : Reads w 1 A ps.length (strs ps)) {A1 : Option Addr} (hA : (A1 = A ∧ ps.length ≤ 1) ∨ A1 = Option.map (fun (x : Addr) => ({ block := x.block, off := x.off + 1 } : Addr)) A) (h1 : 1 ≤ ps.length) : Reads w 1 A1 (ps.drop 1).length (strs (ps.drop 1)) := by
  rcases hA with ⟨rfl, hl⟩ | rfl
  · refine ⟨by simp [strs], fun h0 => ?_⟩
    simp at h0
    omega
  · have := reads_part h 1 (ps.length - 1) (by omega)
    rw [show (ps.drop 1).take (ps.length - 1) = ps.drop 1 from List.take_of_length_le (by simp)] at this
    rw [show (ps.drop 1).length = ps.length - 1 by simp]
    exact this
def zMode : List Value := [.int .u32 0, .slice none 0 0]
def mdCells (s : Nat) : List Value := [.int .u32 (s : Int), .slice none 0 0]
theorem mdCells_one (s : Nat) : ∀ u ∈ mdCells s, u.oneCell' = true := by intro u hu; simp [mdCells] at hu; rcases hu with rfl | rfl <;> rfl
/-- What the document's mode answers. -/
def ModePost (w : World) (r : Option Nat) (e : Ending) (w' : World) : Prop :=
  Keep [] w w' ∧ match r with
    | none => ∃ s : Nat, s < 4294967296 ∧ e = .returned (.tuple #[.agg (mdCells s).toArray, .bool false])
    | some s => e = .returned (.tuple #[.agg (mdCells s).toArray, .bool true])
theorem has10_bit {s : Nat} {n : Int} (h0 : 0 ≤ n) (h1 : n ≤ 31) : has10 s n = s.testBit n.toNat := by
  unfold has10
  simp
  omega
/-- numbers' answer, either way. -/
theorem num_both {w : World} {r : Option (List Int)} {e : Ending} {w' : World} (h : NumPost w r e w') :
    ∃ V L ok, e = .returned (.tuple #[V, .bool ok]) ∧ w'.ownsRow w.heap.size 3 1 V L.length (iv L) ∧ Keep [] w w' ∧ (r = if ok then some L else none) ∧ (ok = false → L = []) := by
  obtain ⟨k, hp⟩ := h
  cases r with
  | none => exact ⟨_, [], false, hp, World.ownsRow_nil _ _ _ _, k, rfl, fun _ => rfl⟩
  | some l =>
    obtain ⟨V, he, hr⟩ := hp
    exact ⟨V, l, true, he, hr, k, rfl, fun h => (by cases h)⟩

set_option maxRecDepth 100000 in
set_option maxHeartbeats 4000000 in
theorem rmode_any (A : Option Addr) (cc : Nat) (ps : List ByteArray) (w : World) (h : Reads w 1 A ps.length (strs ps)) (h1 : 1 ≤ ps.length) (hl : ps.length ≤ 1000001) (hcap : ps.length ≤ cc) (hz : ∀ p ∈ ps, p.size ≤ 1000000) :
    Calls Try.prog 75 #[.slice A ps.length cc] w (ModePost w (bitsP (ps.drop 1) 0)) := by
  have HNM := fun W (hk : Keep [] w W) A1 c1 hA => Lib.hid (rnumbers_any A1 c1 (ps.drop 1) W (reads_drop1 (h.keep0 hk) hA h1) (by simp; omega) (fun p hp => hz p (List.mem_of_mem_drop hp)))
  have hl1 : (ps.drop 1).length = ps.length - 1 := by simp
  rw [hl1] at HNM
  have HB : Hid (bitsP (ps.drop 1) 0 = (numL (ps.drop 1)).bind (fun l => bitsI l 0)) := bitsP_num _ _
  have HGE : Hid (∀ l, numL (ps.drop 1) = some l → (∀ n ∈ l, 0 ≤ n) ∧ l.length ≤ 1000001) := fun l hl2 => ⟨numL_ge hl2, by rw [numL_len hl2]; simp; omega⟩
  have p1 : (1 : Int) ≤ (ps.length : Int) := by omega
  have p2 : (ps.length : Int) ≤ (cc : Int) := by omega
  have p3 : (1 : Int) ≤ (cc : Int) := by omega
  generalize bitsP (ps.drop 1) 0 = res at *
  generalize numL (ps.drop 1) = nl at *
  have hB0 := Blk.new w 80 zMode.toArray
  have K0 : Keep [] w (w.alloc (.cells zMode.toArray 80)) := (Keep.refl [] w).alloc _
  have HK0 := Lib.hid K0
  have HB0 := Lib.hid hB0
  have hcc : cc = 1 ∨ cc ≠ 1 := by omega
  go_enter Try.func75, Try.ntmps75
  clear h hB0 K0
  rcases hcc with hcc | hcc
  case' inl =>
    have hc0 : cc - 1 = 0 := by omega
    have HLC : Hid (ps.length ≤ 1) := by show _ ≤ _; omega
    clear hcc
    go_wp2_with fail
    refine (HNM _ HK0.out A _ (.inl ⟨rfl, HLC.out⟩)).out.mono ?_
    have hcc : cc ≠ 50000000 := by omega
    clear hc0
  case' inr =>
    go_wp2_with fail
    refine (HNM _ HK0.out _ _ (.inr rfl)).out.mono ?_
    generalize Option.map (fun (x : Addr) => ({ block := x.block, off := x.off + 1 } : Addr)) A = A1 at *
  all_goals
    rintro e w1 hp
    obtain ⟨V, L, ok, rfl, hrow, k1, hnl, hnil⟩ := num_both hp
    have K1 := Lib.hid (HK0.out.then k1)
    have hbz := HB0.out.keep0 k1
    have hg1 := hbz.lt
    obtain ⟨g, hg⟩ : ∃ g, w.heap.size = g := ⟨_, rfl⟩
    have hgg : w.heap.size ≤ g := by omega
    rw [hg] at hbz hg1 ⊢
    have HLL : Hid (res = if ok then bitsI L 0 else none) := by
      show _ = _
      rw [HB.out, hnl]
      cases ok <;> rfl
    have hLn : (∀ n ∈ L, 0 ≤ n) ∧ L.length ≤ 1000001 := by
      cases ok with
      | true => exact HGE.out L hnl
      | false => rw [hnil rfl]; simp
    obtain ⟨hL0, hL1⟩ := hLn
    obtain ⟨A', c', rfl⟩ := own_shape hrow
    have HROW := Lib.hid (Reads.of_own hrow)
    have HOFF : Hid (∀ ad, A' = some ad → ad.block < w1.heap.size) := fun ad had => (hrow.lt ad.block (by rw [had]; rfl)).2
    have HBZ := Lib.hid hbz
    have HL0 := Lib.hid hL0
    clear hp hnl hnil hbz hg HB HGE HB0 HK0 k1 hrow hL0
    go_wp2_with (refine stop_store 80 (.tmp 6) (.tmp 14) rfl ?_)
    constructor
    refine wpList_store_all rfl 80 (.tmp 6) (.tmp 14) rfl rfl rfl (vs := mdCells 0) agg_mode.2 (Blk.new _ _ _) (mdCells_one _) rfl ?_
    intro w3 d3 k3
    have k13 : Keep [] w1 w3 := ((Keep.refl [] w1).alloc _).trans k3 (fun y hy h => by simp at hy h; omega)
    have KW := Lib.hid (K1.out.then k13)
    have HB3 := Lib.hid (HBZ.out.keep0 k13)
    have HROW3 : Hid (∀ W, Keep [w1.heap.size] w3 W → Reads W 1 A' L.length (iv L)) := fun W hk => (HROW.out.keep0 k13).keep hk (fun ad had hm => by have := HOFF.out ad had; simp at hm; omega)
    have HD3 := Lib.hid d3
    clear k13 d3 k3 HBZ K1 HROW
    obtain ⟨g6, hg6⟩ : ∃ g6, w1.heap.size = g6 := ⟨_, rfl⟩
    rw [hg6] at hg1 HD3 HROW3 ⊢
    have h66 : w.heap.size ≤ g6 := by omega
    have HNE : Hid (g6 ≠ g) := by show _ ≠ _; omega
    have HG6 := Lib.hid h66
    clear hg6 h66
    go_wp2
    go_loopw [7] (fun v7 wr => ∃ (i : Nat) (s : Nat), i ≤ L.length ∧ v7 = .int .i64 (i : Int) ∧ bitsI L 0 = bitsI (L.drop i) s ∧ s < 4294967296 ∧ Blk wr g6 80 (mdCells s).toArray ∧ Blk wr g 80 zMode.toArray ∧ Keep [g6] w3 wr ∧ Keep [] w wr) (fun v7 _ => L.length - (intOf v7).toNat)
    case atStart => exact ⟨0, 0, Nat.zero_le _, rfl, rfl, by decide, HD3.out, HB3.out, Keep.refl _ _, KW.out⟩
    case round =>
      obtain ⟨i, s, hil, rfl, hbi, hs, hbt, hbz, hk3, hkw⟩ := hrel
      have HKW := Lib.hid hkw
      have HK3 := Lib.hid hk3
      have HBT := Lib.hid hbt
      have HBZ := Lib.hid hbz
      by_cases hlt : i < L.length
      · obtain ⟨bp, op, rfl, hbp, hcc2⟩ := (HROW3.out wr hk3).addr (by omega)
        have hci := hcc2 i (.int .i64 L[i]) (iv_get hlt)
        have hF : ∀ W, Keep [] wr W → W.cell? ⟨bp, op + i, none⟩ = some (.int .i64 L[i]) ∧ W.cell? ⟨g6, 0, none⟩ = some (.int .u32 (s : Int)) := fun W k => ⟨by rw [k.cell hbp (by simp)]; exact hci, (HBT.out.keep0 k).cell 0⟩
        have p0 : (0 : Int) ≤ (i : Int) := by omega
        have p1' : (i : Int) < (L.length : Int) := by omega
        have hn0 := HL0.out L[i] (List.getElem_mem hlt)
        have HSTEP : Hid (bitsI L 0 = if L[i] ≤ 31 ∧ s.testBit L[i].toNat = false then bitsI (L.drop (i + 1)) (s ||| 2 ^ L[i].toNat) else none) := by show _ = _; rw [hbi, List.drop_eq_getElem_cons hlt]; rfl
        clear hcc2 hci hbi hbt hbz hk3 hkw
        generalize L[i] = n at *
        by_cases hbig : 31 < n
        · have hb : decide ((31 : Int) < n) = true := decide_eq_true hbig
          have hN : Hid (res = none) := by
            show _ = _
            rw [HLL.out]
            cases ok
            · rfl
            · rw [if_pos rfl, HSTEP.out, if_neg (fun h => by omega)]
          clear HSTEP hbig
          go_upto_region 6 with fail
          refine wp_region_flow (Keep [] wr) rfl (by kernel_rfl) (Keep.refl _ _).drew ?_
          (refine fl_val (v := ?_) (by rfl) ?_ ?_; rotate_left; (intro w' hS; obtain ⟨f1,f2⟩ := hF w' hS; go_simp; with_reducible rfl); simp only [Act.put, List.setIfInBounds_toArray, List.set_cons_zero, List.set_cons_succ])
          (refine fl_val (v := ?_) (by rfl) ?_ ?_; rotate_left; (intro w' hS; obtain ⟨f1,f2⟩ := hF w' hS; go_simp; with_reducible rfl); simp only [Act.put, List.setIfInBounds_toArray, List.set_cons_zero, List.set_cons_succ])
          (refine fl_val (v := ?_) (by rfl) ?_ ?_; rotate_left; (intro w' hS; obtain ⟨f1,f2⟩ := hF w' hS; go_simp; with_reducible rfl); simp only [Act.put, List.setIfInBounds_toArray, List.set_cons_zero, List.set_cons_succ])
          (refine fl_val (v := ?_) (by rfl) ?_ ?_; rotate_left; (intro w' hS; obtain ⟨f1,f2⟩ := hF w' hS; go_simp; with_reducible rfl); simp only [Act.put, List.setIfInBounds_toArray, List.set_cons_zero, List.set_cons_succ])
          (refine fl_val (v := ?_) (by rfl) ?_ ?_; rotate_left; (intro w' hS; obtain ⟨f1,f2⟩ := hF w' hS; go_simp; with_reducible rfl); simp only [Act.put, List.setIfInBounds_toArray, List.set_cons_zero, List.set_cons_succ])
          (refine fl_val (v := ?_) (by rfl) ?_ ?_; rotate_left; (intro w' hS; obtain ⟨f1,f2⟩ := hF w' hS; go_simp; with_reducible rfl); simp only [Act.put, List.setIfInBounds_toArray, List.set_cons_zero, List.set_cons_succ])
          (refine fl_off (by rfl) ?_; simp only [Act.put, List.setIfInBounds_toArray, List.set_cons_zero, List.set_cons_succ])
          (refine fl_off (by rfl) ?_; simp only [Act.put, List.setIfInBounds_toArray, List.set_cons_zero, List.set_cons_succ])
          (refine fl_off (by rfl) ?_; simp only [Act.put, List.setIfInBounds_toArray, List.set_cons_zero, List.set_cons_succ])
          (refine fl_off (by rfl) ?_; simp only [Act.put, List.setIfInBounds_toArray, List.set_cons_zero, List.set_cons_succ])
          (refine fl_off (by rfl) ?_; simp only [Act.put, List.setIfInBounds_toArray, List.set_cons_zero, List.set_cons_succ])
          (refine fl_off (by rfl) ?_; simp only [Act.put, List.setIfInBounds_toArray, List.set_cons_zero, List.set_cons_succ])
          (refine fl_off (by rfl) ?_; simp only [Act.put, List.setIfInBounds_toArray, List.set_cons_zero, List.set_cons_succ])
          (refine fl_val (v := ?_) (by rfl) ?_ ?_; rotate_left; (intro w' hS; obtain ⟨f1,f2⟩ := hF w' hS; go_simp; with_reducible rfl); simp only [Act.put, List.setIfInBounds_toArray, List.set_cons_zero, List.set_cons_succ])
          refine fl_nil ?_
          intro w5 hS
          go_wp2_with (first
            | (refine wpList_load_agg rfl 80 (.tmp 6) rfl rfl (cs := mdCells s) agg_mode (HBT.out.keep0 hS).cellsAt ?_)
            | (refine stop_store 80 (.tmp 2) (.tmp 35) rfl ?_))
          constructor
          refine wpList_store_all rfl 80 (.tmp 2) (.tmp 35) rfl rfl rfl (vs := mdCells s) agg_mode.2 (HBZ.out.keep0 hS) (mdCells_one s) rfl ?_
          intro wz dz kz
          have krz := (HKW.out.then hS).trans kz (fun y hy h => by simp at hy; omega)
          go_wp2
          refine bodyPost_ret (results_cell_tmp rfl _ rfl rfl dz agg_mode) rfl ?_
          rw [hN.out]
          exact ⟨krz, s, hs, rfl⟩
        · have hb : decide ((31 : Int) < n) = false := decide_eq_false hbig
          have HHAS := fun W => Lib.hid (has10_any s n W hs)
          rw [has10_bit hn0 (by omega)] at HHAS
          obtain ⟨j, rfl⟩ : ∃ j : Nat, n = (j : Int) := ⟨n.toNat, by omega⟩
          rw [Int.toNat_natCast] at HHAS HSTEP
          have hj : j < 32 := by omega
          cases htb : s.testBit j with
          | true =>
            rw [htb] at HHAS HSTEP
            have hN : Hid (res = none) := by
              show _ = _
              rw [HLL.out]
              cases ok
              · rfl
              · rw [if_pos rfl, HSTEP.out, if_neg (fun h => by cases h.2)]
            clear HSTEP hbig htb
            go_upto_region 6 with fail
            refine wp_region_flow (Keep [] wr) rfl (by kernel_rfl) (Keep.refl _ _).drew ?_
            iterate 12 (refine fl_val (v := ?_) (by rfl) ?_ ?_; rotate_left; (intro w' hS; obtain ⟨f1,f2⟩ := hF w' hS; go_simp; with_reducible rfl); simp only [Act.put, List.setIfInBounds_toArray, List.set_cons_zero, List.set_cons_succ])
            refine fl_call (f := 44) (v := .bool true) (by rfl) rfl (by simp only [List.map_toArray, List.map_cons, List.map_nil]; rfl) Try.func44 (by kernel_rfl) (by kernel_rfl) (fun w' hS => (HHAS w').out.mono fun e w'' hh => ⟨hh.1, hh.2 ▸ hS⟩) ?_; simp only [Act.put, List.setIfInBounds_toArray, List.set_cons_zero, List.set_cons_succ]
            (refine fl_val (v := ?_) (by rfl) ?_ ?_; rotate_left; (intro w' hS; obtain ⟨f1,f2⟩ := hF w' hS; go_simp; with_reducible rfl); simp only [Act.put, List.setIfInBounds_toArray, List.set_cons_zero, List.set_cons_succ])
            refine fl_nil ?_
            intro w5 hS
            go_wp2_with (first
              | (refine wpList_load_agg rfl 80 (.tmp 6) rfl rfl (cs := mdCells s) agg_mode (HBT.out.keep0 hS).cellsAt ?_)
              | (refine stop_store 80 (.tmp 2) (.tmp 35) rfl ?_))
            constructor
            refine wpList_store_all rfl 80 (.tmp 2) (.tmp 35) rfl rfl rfl (vs := mdCells s) agg_mode.2 (HBZ.out.keep0 hS) (mdCells_one s) rfl ?_
            intro wz dz kz
            have krz := (HKW.out.then hS).trans kz (fun y hy h => by simp at hy; omega)
            go_wp2
            refine bodyPost_ret (results_cell_tmp rfl _ rfl rfl dz agg_mode) rfl ?_
            rw [hN.out]
            exact ⟨krz, s, hs, rfl⟩
          | false =>
            rw [htb] at HHAS HSTEP
            have hS2 : Hid (bitsI L 0 = bitsI (L.drop (i + 1)) (s ||| 2 ^ j)) := by show _ = _; rw [HSTEP.out, if_pos ⟨by omega, rfl⟩]
            have h2j : 2 ^ j < 2 ^ 32 := Nat.pow_lt_pow_right (by decide) hj
            have hlt2 : Hid ((s ||| 2 ^ j) < 4294967296) := Nat.or_lt_two_pow (n := 32) hs h2j
            have hadd : Hid (((s : Int) + 2 ^ min j 32) % 4294967296 = ((s ||| 2 ^ j : Nat) : Int)) := by
              show _ = _
              have e : ((2 : Int) ^ j) = ((2 ^ j : Nat) : Int) := by norm_cast
              rw [Nat.min_eq_left (by omega : j ≤ 32), e, ← add_bit s j htb]
              have := hlt2.out
              rw [← add_bit s j htb] at this
              generalize 2 ^ j = t at this ⊢
              omega
            clear HSTEP hbig htb h2j
            go_upto_region 6 with fail
            refine wp_region_flow (Keep [] wr) rfl (by kernel_rfl) (Keep.refl _ _).drew ?_
            iterate 12 (refine fl_val (v := ?_) (by rfl) ?_ ?_; rotate_left; (intro w' hS; obtain ⟨f1,f2⟩ := hF w' hS; go_simp; with_reducible rfl); simp only [Act.put, List.setIfInBounds_toArray, List.set_cons_zero, List.set_cons_succ])
            refine fl_call (f := 44) (v := .bool false) (by rfl) rfl (by simp only [List.map_toArray, List.map_cons, List.map_nil]; rfl) Try.func44 (by kernel_rfl) (by kernel_rfl) (fun w' hS => (HHAS w').out.mono fun e w'' hh => ⟨hh.1, hh.2 ▸ hS⟩) ?_; simp only [Act.put, List.setIfInBounds_toArray, List.set_cons_zero, List.set_cons_succ]
            (refine fl_val (v := ?_) (by rfl) ?_ ?_; rotate_left; (intro w' hS; obtain ⟨f1,f2⟩ := hF w' hS; go_simp; with_reducible rfl); simp only [Act.put, List.setIfInBounds_toArray, List.set_cons_zero, List.set_cons_succ])
            refine fl_nil ?_
            intro w5 hS5
            have HS5 := Lib.hid hS5
            have hF5 : ∀ W, Keep [] w5 W → W.cell? ⟨bp, op + i, none⟩ = some (.int .i64 (j : Int)) ∧ W.cell? ⟨g6, 0, none⟩ = some (.int .u32 (s : Int)) := fun W k => hF W (HS5.out.then k)
            clear hF hS5
            go_upto_region 8 with fail
            refine wp_region_flow_tail 10 (Keep [] w5) rfl (by kernel_rfl) (Keep.refl _ _).drew ?_
            iterate 10 (refine fl_val (v := ?_) (by rfl) ?_ ?_; rotate_left; (intro w' hS; obtain ⟨f1,f2⟩ := hF5 w' hS; go_simp; with_reducible rfl); simp only [Act.put, List.setIfInBounds_toArray, List.set_cons_zero, List.set_cons_succ])
            refine fl_nil ?_
            intro w6 hS6
            have k36 := HS5.out.then hS6
            have c6 := (HBT.out.keep0 k36).cell 0
            have f6 := (HBT.out.keep0 k36).frozen 0
            have hB6 : Hid (Blk (w6.setCell ⟨g6, 0, none⟩ (.int .u32 (((s : Int) + 2 ^ min j 32) % 4294967296))) g6 80 (mdCells (s ||| 2 ^ j)).toArray) := by
              show Blk _ _ _ _
              rw [hadd.out]
              exact (HBT.out.keep0 k36).set_ 0 _
            have hZ6 : Hid (Blk (w6.setCell ⟨g6, 0, none⟩ (.int .u32 (((s : Int) + 2 ^ min j 32) % 4294967296))) g 80 zMode.toArray) := (HBZ.out.keep0 k36).far (Ne.symm HNE.out) _
            have hK6 : Hid (Keep [] w (w6.setCell ⟨g6, 0, none⟩ (.int .u32 (((s : Int) + 2 ^ min j 32) % 4294967296)))) := (HKW.out.then k36).setCell (fun h => by dsimp only at h; have := HG6.out; omega) _
            have hK63 : Hid (Keep [g6] w3 (w6.setCell ⟨g6, 0, none⟩ (.int .u32 (((s : Int) + 2 ^ min j 32) % 4294967296)))) := (HK3.out.trans k36 (by simp)).setCell (by simp) _
            clear hS6 hF5 k36
            go_wp2
            go_roundw
            case rel => exact ⟨i + 1, s ||| 2 ^ j, by omega, by go_num, hS2.out, hlt2.out, hB6.out, hZ6.out, hK63.out, hK6.out⟩
            case measure => simp [intOf]; omega
      · obtain rfl : i = L.length := by omega
        have hS2 : Hid (bitsI L 0 = some s) := by show _ = _; rw [hbi, List.drop_eq_nil_iff.2 (Nat.le_refl _)]; rfl
        clear hbi hbt hbz hk3 hkw
        go_wp2_with (first
          | (refine wpList_load_agg rfl 80 (.tmp 6) rfl rfl (cs := mdCells s) agg_mode HBT.out.cellsAt ?_)
          | (refine stop_store 80 (.tmp 2) (.tmp 46) rfl ?_))
        constructor
        refine wpList_store_all rfl 80 (.tmp 2) (.tmp 46) rfl rfl rfl (vs := mdCells s) agg_mode.2 HBZ.out (mdCells_one s) rfl ?_
        intro wz dz kz
        have krz := HKW.out.trans kz (fun y hy h => by simp at hy; omega)
        go_wp2
        refine bodyPost_ret (results_cell_tmp rfl _ rfl rfl dz agg_mode) rfl ?_
        rw [HLL.out]
        cases ok
        · exact ⟨krz, s, hs, rfl⟩
        · rw [if_pos rfl, hS2.out]
          exact ⟨krz, rfl⟩
end Go.Proofs.Ytoepkhkaifgddaa
