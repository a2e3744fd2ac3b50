/- A bank in memory; bank.New, Room, Void, data, walked. Condition: the device is one that may be, the bank one that fits. -/
import Derived.Test.YteanpgkonhdbpaaHdrR
import Derived.Test.YteanpgkonhdbpaaCrc
import Derived.Test.YteanpgkonhdbpaaFlashSect
import Derived.Test.YteanpgkonhdbpaaFlashOk
namespace Go.Proofs.Yteanpgkonhdbpaa
open Go.RowKit

/-- A bank's own state: its sectors, whether words may be put in, how many were, the sum of these (in the making, and of how many bytes). -/
structure BkS where
  base : Nat
  many : Nat
  opn : Bool
  pn : Nat
  s : Nat
  m : Nat
def bkCells (g : Nat) (b : BkS) : Array Value := #[.pointer (some ⟨g, 0, none⟩), .int .i64 b.base, .int .i64 b.many, .bool b.opn, .int .i64 b.pn, .int .u32 ((cplJ b.s : Nat) : Int), .int .i64 b.m]
def BankAt (W : World) (gb g : Nat) (b : BkS) : Prop := Blk W gb 128 (bkCells g b)
theorem BankAt.keep0 {W W' : World} {gb g : Nat} {b : BkS} (h : BankAt W gb g b) (k : Keep [] W W') : BankAt W' gb g b := Blk.keep0 h k
theorem BankAt.cells {W : World} {gb g : Nat} {b : BkS} (h : BankAt W gb g b) : W.cell? ⟨gb, 0, none⟩ = some (.pointer (some ⟨g, 0, none⟩)) ∧ W.cell? ⟨gb, 1, none⟩ = some (.int .i64 b.base) ∧ W.cell? ⟨gb, 2, none⟩ = some (.int .i64 b.many) ∧
    W.cell? ⟨gb, 3, none⟩ = some (.bool b.opn) ∧ W.cell? ⟨gb, 4, none⟩ = some (.int .i64 b.pn) := ⟨Blk.cell h 0, Blk.cell h 1, Blk.cell h 2, Blk.cell h 3, Blk.cell h 4⟩
/-- The bank is one of the device's. -/
structure BkOk (d : Dev) (b : BkS) : Prop where
  three : 3 ≤ b.many
  fits : b.base + b.many ≤ d.ns
  words : 13 ≤ d.nw
def newB (base many : Nat) : BkS := ⟨base, many, false, 0, 4294967295, 0⟩
def roomB (d : Dev) (b : BkS) : Nat := min ((b.many - 2) * d.nw) 4096
def voidB (d : Dev) (b : BkS) : Bool := decide (wdJ d b.base 0 ≠ 4294967295)

set_option maxRecDepth 100000 in
set_option maxHeartbeats 2000000 in
theorem bnew_yes (g b1 b2 base many : Nat) (d : Dev) (w : World) (hd : DevAt w g b1 b2 d) (ho : d.Ok) (h3 : 3 ≤ many) (hb : base + many ≤ d.ns) (h13 : 13 ≤ d.nw) :
    Calls Try.prog 26 #[.pointer (some ⟨g, 0, none⟩), .int .i64 (base : Int), .int .i64 (many : Int)] w fun e w' => ∃ gb, e = .returned (.tuple #[.pointer (some ⟨gb, 0, none⟩), .int .i64 0]) ∧ w.heap.size ≤ gb ∧ BankAt w' gb g (newB base many) ∧ Keep [] w w' := by
  have hns := ho.ns2
  have hnw2 := ho.nw2
  have q0 : decide ((many : Int) < 3) = false := decide_eq_false (by omega)
  have q1 : decide ((64 : Int) < (many : Int)) = false := decide_eq_false (by omega)
  have q2 : decide ((base : Int) < 0) = false := decide_eq_false (by omega)
  have q3 : decide ((d.ns : Int) - (many : Int) < (base : Int)) = false := decide_eq_false (by omega)
  have q4 : decide ((d.nw : Int) < 13) = false := decide_eq_false (by omega)
  have p0 : (many < 3) = False := eq_false (by omega)
  have p1 : (64 < many) = False := eq_false (by omega)
  have p3 : ((d.ns : Int) - (many : Int) < (base : Int)) = False := eq_false (by omega)
  have p4 : (d.nw < 13) = False := eq_false (by omega)
  have q5 : IntKind.i64.wrap ((d.ns : Int) - (many : Int)) = (d.ns : Int) - (many : Int) := IntWalk.i64_in _ (by omega)
  have HSE := Lib.hid (fsectors_any g b1 b2 d w hd ho)
  have HWO := Lib.hid (fwords_any g b1 b2 d w hd)
  have HE : Hid (bkCells g (newB base many) = #[.pointer (some ⟨g, 0, none⟩), .int .i64 (base : Int), .int .i64 (many : Int), .bool false, .int .i64 0, .int .u32 0, .int .i64 0]) := by
    have : cplJ 4294967295 = 0 := by decide
    show _ = _
    unfold bkCells newB
    rw [this]
    rfl
  have HB := Lib.hid (Blk.new w 128 #[.pointer (some ⟨g, 0, none⟩), .int .i64 (base : Int), .int .i64 (many : Int), .bool false, .int .i64 0, .int .u32 0, .int .i64 0])
  have HK := Lib.hid ((Keep.refl [] w).alloc (.cells #[.pointer (some ⟨g, 0, none⟩), .int .i64 (base : Int), .int .i64 (many : Int), .bool false, .int .i64 0, .int .u32 0, .int .i64 0] 128))
  generalize d.ns = ns at *
  generalize d.nw = nw at *
  clear hd ho h3 hb h13
  go_enter Try.func26, Try.ntmps26
  go_wp2_with (first
    | (refine HSE.out.mono ?_; rintro e w1 ⟨rfl, rfl⟩)
    | (refine HWO.out.mono ?_; rintro e w1 ⟨rfl, rfl⟩))
  go_ret2
  refine ⟨_, rfl, Nat.le_refl _, ?_, HK.out⟩
  unfold BankAt
  rw [HE.out]
  exact HB.out

set_option maxRecDepth 100000 in
set_option maxHeartbeats 1000000 in
theorem bnew_nil (base many : Int) (w : World) :
    Calls Try.prog 26 #[.pointer none, .int .i64 base, .int .i64 many] w fun e w' => e = .returned (.tuple #[.pointer none, .int .i64 64]) ∧ w = w' := by
  go_enter Try.func26, Try.ntmps26
  go_wp2_with fail
  go_ret2
  exact ⟨rfl, rfl⟩

set_option maxRecDepth 100000 in
set_option maxHeartbeats 2000000 in
theorem bnew_no (g b1 b2 : Nat) (base many : Int) (d : Dev) (w : World) (hd : DevAt w g b1 b2 d) (ho : d.Ok) (hno : many < 3 ∨ 64 < many ∨ base < 0 ∨ (d.ns : Int) - many < base ∨ d.nw < 13) :
    Calls Try.prog 26 #[.pointer (some ⟨g, 0, none⟩), .int .i64 base, .int .i64 many] w fun e w' => e = .returned (.tuple #[.pointer none, .int .i64 64]) ∧ w = w' := by
  have hns := ho.ns2
  have HSE := Lib.hid (fsectors_any g b1 b2 d w hd ho)
  have HWO := Lib.hid (fwords_any g b1 b2 d w hd)
  generalize d.ns = ns at *
  generalize d.nw = nw at *
  clear hd ho
  go_enter Try.func26, Try.ntmps26
  by_cases h0 : many < 3
  · have q0 : decide (many < 3) = true := decide_eq_true h0
    have p0 := eq_true h0
    go_wp2_with fail
    go_ret2
    exact ⟨rfl, rfl⟩
  have q0 : decide (many < 3) = false := decide_eq_false h0
  have p0 := eq_false h0
  by_cases h1 : 64 < many
  · have q1 : decide (64 < many) = true := decide_eq_true h1
    have p1 := eq_true h1
    go_wp2_with fail
    go_ret2
    exact ⟨rfl, rfl⟩
  have q1 : decide (64 < many) = false := decide_eq_false h1
  have p1 := eq_false h1
  by_cases h2 : base < 0
  · have q2 : decide (base < 0) = true := decide_eq_true h2
    have p2 := eq_true h2
    go_wp2_with fail
    go_ret2
    exact ⟨rfl, rfl⟩
  have q2 : decide (base < 0) = false := decide_eq_false h2
  have p2 := eq_false h2
  have q5 : IntKind.i64.wrap ((ns : Int) - many) = (ns : Int) - many := IntWalk.i64_in _ (by omega)
  by_cases h3 : (ns : Int) - many < base
  · have q3 : decide ((ns : Int) - many < base) = true := decide_eq_true h3
    have p3 := eq_true h3
    go_wp2_with (refine HSE.out.mono ?_; rintro e w1 ⟨rfl, rfl⟩)
    go_ret2
    exact ⟨rfl, rfl⟩
  have q3 : decide ((ns : Int) - many < base) = false := decide_eq_false h3
  have p3 := eq_false h3
  have q4 : decide ((nw : Int) < 13) = true := decide_eq_true (by omega)
  have q4n : (nw < 13) = True := eq_true (by omega)
  go_wp2_with (first
    | (refine HSE.out.mono ?_; rintro e w1 ⟨rfl, rfl⟩)
    | (refine HWO.out.mono ?_; rintro e w1 ⟨rfl, rfl⟩))
  go_ret2
  exact ⟨rfl, rfl⟩

section
variable (gb g b1 b2 : Nat) (d : Dev) (b : BkS) (w : World) (hb : BankAt w gb g b) (hd : DevAt w g b1 b2 d) (ho : d.Ok) (hk : BkOk d b)
include hb hd ho hk
set_option maxRecDepth 100000 in
set_option maxHeartbeats 2000000 in
theorem broom_any : Calls Try.prog 30 #[.pointer (some ⟨gb, 0, none⟩)] w fun e w' => e = .returned (.int .i64 ((roomB d b : Nat) : Int)) ∧ Keep [] w w' := by
  have hns := ho.ns2
  have hnw := ho.nw2
  have h3 := hk.three
  have hf := hk.fits
  have hF : ∀ W, Keep [] w W → W.cell? ⟨gb, 0, none⟩ = some (.pointer (some ⟨g, 0, none⟩)) ∧ W.cell? ⟨gb, 2, none⟩ = some (.int .i64 (b.many : Int)) ∧ True := fun W k => ⟨(hb.keep0 k).cells.1, (hb.keep0 k).cells.2.2.1, trivial⟩
  have HWO : Hid (∀ W, Keep [] w W → Calls Try.prog 61 #[.pointer (some ⟨g, 0, none⟩)] W fun e w' => e = .returned (.int .i64 (d.nw : Int)) ∧ Keep [] w w') := fun W k => (fwords_any g b1 b2 d W (hd.keep0 k)).mono fun e w' h => ⟨h.1, h.2 ▸ k⟩
  have hw1 : IntKind.i64.wrap ((b.many : Int) - 2) = (b.many : Int) - 2 := IntWalk.i64_in _ (by omega)
  have hmul : ((b.many : Int) - 2) * (d.nw : Int) = (((b.many - 2) * d.nw : Nat) : Int) := by rw [Int.natCast_mul, Int.ofNat_sub (by omega)]; rfl
  have hle : (b.many - 2) * d.nw ≤ 64 * 1024 := Nat.mul_le_mul (by omega) hnw
  have hw2 : IntKind.i64.wrap (((b.many : Int) - 2) * (d.nw : Int)) = (((b.many - 2) * d.nw : Nat) : Int) := by rw [hmul]; exact IntWalk.i64_in _ (by omega)
  have HR : Hid (roomB d b = min ((b.many - 2) * d.nw) 4096) := show _ = _ from rfl
  generalize (b.many - 2) * d.nw = p at *
  generalize roomB d b = r at *
  have HV : Hid ((if (4096 : Int) < (p : Int) then (4096 : Int) else (p : Int)) = (r : Int)) := by
    show _ = _
    have := HR.out
    split <;> omega
  clear hmul hb hd ho hk hf HR
  go_enter Try.func30, Try.ntmps30
  go_upto_region 1 with fail
  refine wp_region_flow (Keep [] w) rfl (by kernel_rfl) (Keep.refl _ _).drew ?_
  iterate 9 (refine fl_val (v := ?_) (by rfl) ?_ ?_; rotate_left; (intro w' hS; obtain ⟨f0,f1,f2⟩ := hF w' hS; go_simp; with_reducible rfl); simp only [Act.put, List.setIfInBounds_toArray, List.set_cons_zero, List.set_cons_succ])
  refine fl_call (f := 61) (v := .int .i64 (d.nw : Int)) (by rfl) rfl (by simp only [List.map_toArray, List.map_cons, List.map_nil]; rfl) Try.func61 (by kernel_rfl) (by kernel_rfl) (fun w' hS => ((HWO.out w' hS))) ?_; simp only [Act.put, List.setIfInBounds_toArray, List.set_cons_zero, List.set_cons_succ]
  (refine fl_val (v := ?_) (by rfl) ?_ ?_; rotate_left; (intro w' hS; obtain ⟨f0,f1,f2⟩ := hF w' hS; go_simp; with_reducible rfl); simp only [Act.put, List.setIfInBounds_toArray, List.set_cons_zero, List.set_cons_succ])
  refine fl_val (v := .int .i64 (r : Int)) (by rfl) (fun w' hS => by go_simp; exact HV.out) ?_
  simp only [Act.put, List.setIfInBounds_toArray, List.set_cons_zero, List.set_cons_succ]
  (refine fl_val (v := ?_) (by rfl) ?_ ?_; rotate_left; (intro w' hS; obtain ⟨f0,f1,f2⟩ := hF w' hS; go_simp; with_reducible rfl); simp only [Act.put, List.setIfInBounds_toArray, List.set_cons_zero, List.set_cons_succ])
  refine fl_nil ?_
  intro w4 hS
  go_wp2
  go_ret
  exact ⟨rfl, hS⟩

set_option maxRecDepth 100000 in
set_option maxHeartbeats 2000000 in
theorem bvoid_any : Calls Try.prog 31 #[.pointer (some ⟨gb, 0, none⟩)] w fun e w' => e = .returned (.bool (voidB d b)) ∧ Keep [] w w' := by
  have hns := ho.ns2
  have hnw := ho.nw1
  have h3 := hk.three
  have hf := hk.fits
  have hF : ∀ W, Keep [] w W → W.cell? ⟨gb, 0, none⟩ = some (.pointer (some ⟨g, 0, none⟩)) ∧ W.cell? ⟨gb, 1, none⟩ = some (.int .i64 (b.base : Int)) ∧ True := fun W k => ⟨(hb.keep0 k).cells.1, (hb.keep0 k).cells.2.1, trivial⟩
  have HSE : Hid (∀ W, Keep [] w W → Calls Try.prog 39 #[.pointer (some ⟨g, 0, none⟩), .int .i64 (b.base : Int)] W (RetWords W (sectL d b.base))) := fun W k => by
    have := fsector_any g b1 b2 d (b.base : Int) W (hd.keep0 k) ho
    unfold sectS at this
    rw [if_pos (by omega)] at this
    exact this
  have HL : Hid ((sectL d b.base).length = d.nw) := sectL_len d ho b.base (by omega)
  have HX : Hid ((sectL d b.base)[0]? = some (wdJ d b.base 0)) := by
    show _ = _
    rw [sectL_get d b.base 0 (by omega)]
    have := in_bits ho (s := b.base) (q := 0) (by omega) (by omega)
    unfold wdJ
    rw [List.getElem?_eq_getElem this, List.getD_eq_getElem?_getD, List.getElem?_eq_getElem this]
    rfl
  have HV : Hid (voidB d b = decide (wdJ d b.base 0 ≠ 4294967295)) := show _ = _ from rfl
  generalize voidB d b = vb at *
  generalize wdJ d b.base 0 = x at *
  generalize sectL d b.base = l at *
  clear hb hd ho hk
  go_enter Try.func31, Try.ntmps31
  go_upto_region 1 with fail
  refine wp_region_flow_tail 8 (Keep [] w) rfl (by kernel_rfl) (Keep.refl _ _).drew ?_
  iterate 8 (refine fl_val (v := ?_) (by rfl) ?_ ?_; rotate_left; (intro w' hS; obtain ⟨f0,f1,f2⟩ := hF w' hS; go_simp; with_reducible rfl); simp only [Act.put, List.setIfInBounds_toArray, List.set_cons_zero, List.set_cons_succ])
  refine fl_nil ?_
  intro w4 hS
  go_wp2_with fail
  refine (HSE.out w4 hS).mono ?_
  rintro e w5 ⟨A, c, rfl, hown, k5⟩
  rw [HL.out] at hown ⊢
  obtain ⟨bb, ob, rfl, hlt, hcs⟩ := (Reads.of_own hown).addr (by omega)
  have hx : w5.cell? ⟨bb, ob, none⟩ = some (.int .u32 (x : Int)) := hcs 0 _ (by rw [List.getElem?_map, HX.out]; rfl)
  have q0 : ((d.nw : Int) == 0) = false := beq_eq_false_iff_ne.2 (by omega)
  have q1 : (d.nw = 0) = False := eq_false (by omega)
  have q2 : (0 : Int) < (d.nw : Int) := by omega
  have HK5 := Lib.hid (hS.then k5)
  clear hown hcs k5 hS
  by_cases hx0 : x = 4294967295
  · have HV2 : Hid (vb = false) := by show _ = _; rw [HV.out, hx0]; rfl
    rw [hx0] at hx
    have hx' : w5.cell? ⟨bb, ob, none⟩ = some (.int .u32 4294967295) := hx
    clear hx hx0
    go_wp2
    go_ret
    rw [HV2.out]
    exact ⟨rfl, HK5.out⟩
  · have HV2 : Hid (vb = true) := by show _ = _; rw [HV.out]; exact decide_eq_true hx0
    have q3 : ((x : Int) == 4294967295) = false := beq_eq_false_iff_ne.2 (by omega)
    have q4 : (x = 4294967295) = False := eq_false hx0
    have q5 : ((x : Int) = 4294967295) = False := eq_false (by omega)
    have q6 : ((x : Int) != 4294967295) = true := bne_iff_ne.2 (by omega)
    clear hx0
    go_wp2
    go_ret
    rw [HV2.out]
    exact ⟨rfl, HK5.out⟩

set_option maxRecDepth 100000 in
set_option maxHeartbeats 2000000 in
theorem bdata_any (i : Nat) (hi : i ≤ 1000000) : Calls Try.prog 107 #[.pointer (some ⟨gb, 0, none⟩), .int .i64 (i : Int)] w fun e w' => e = .returned (.tuple #[.int .i64 ((b.base + 2 + i / d.nw : Nat) : Int), .int .i64 ((i % d.nw : Nat) : Int)]) ∧ Keep [] w w' := by
  have hns := ho.ns2
  have hnw := ho.nw1
  have hnw2 := ho.nw2
  have h3 := hk.three
  have hf := hk.fits
  have hF : ∀ W, Keep [] w W → W.cell? ⟨gb, 0, none⟩ = some (.pointer (some ⟨g, 0, none⟩)) ∧ W.cell? ⟨gb, 1, none⟩ = some (.int .i64 (b.base : Int)) ∧ True := fun W k => ⟨(hb.keep0 k).cells.1, (hb.keep0 k).cells.2.1, trivial⟩
  have HWO : Hid (∀ W, Keep [] w W → Calls Try.prog 61 #[.pointer (some ⟨g, 0, none⟩)] W fun e w' => e = .returned (.int .i64 (d.nw : Int)) ∧ Keep [] w w') := fun W k => (fwords_any g b1 b2 d W (hd.keep0 k)).mono fun e w' h => ⟨h.1, h.2 ▸ k⟩
  have hw1 : IntKind.i64.wrap ((b.base : Int) + 2) = ((b.base + 2 : Nat) : Int) := by rw [show (b.base : Int) + 2 = ((b.base + 2 : Nat) : Int) by omega]; exact IntWalk.i64_in _ (by omega)
  have hle : i / d.nw ≤ i := Nat.div_le_self _ _
  have hq : (i : Int).tdiv (d.nw : Int) = ((i / d.nw : Nat) : Int) := by rw [Int.tdiv_eq_ediv_of_nonneg (by omega)]; norm_cast
  have hr : (i : Int).tmod (d.nw : Int) = ((i % d.nw : Nat) : Int) := by rw [Int.tmod_eq_emod_of_nonneg (by omega)]; norm_cast
  have hz0 : ((d.nw : Int) == 0) = false := beq_eq_false_iff_ne.2 (by omega)
  have hz1 : ((d.nw : Int) = 0) = False := eq_false (by omega)
  have hz2 : (d.nw = 0) = False := eq_false (by omega)
  generalize d.nw = nw at *
  generalize i / nw = p at *
  generalize i % nw = r at *
  have hwq : IntKind.i64.wrap (p : Int) = (p : Int) := IntWalk.i64_in _ (by omega)
  have hw2 : IntKind.i64.wrap ((b.base : Int) + 2 + (p : Int)) = ((b.base + 2 + p : Nat) : Int) := by rw [show (b.base : Int) + 2 + (p : Int) = ((b.base + 2 + p : Nat) : Int) by omega]; exact IntWalk.i64_in _ (by omega)
  clear hb hd ho hk hf hle
  go_enter Try.func107, Try.ntmps107
  go_upto_region 1 with fail
  refine wp_region_flow (Keep [] w) rfl (by kernel_rfl) (Keep.refl _ _).drew ?_
  iterate 10 (refine fl_val (v := ?_) (by rfl) ?_ ?_; rotate_left; (intro w' hS; obtain ⟨f0,f1,f2⟩ := hF w' hS; go_simp; with_reducible rfl); simp only [Act.put, List.setIfInBounds_toArray, List.set_cons_zero, List.set_cons_succ])
  refine fl_call (f := 61) (v := .int .i64 (nw : Int)) (by rfl) rfl (by simp only [List.map_toArray, List.map_cons, List.map_nil]; rfl) Try.func61 (by kernel_rfl) (by kernel_rfl) (fun w' hS => ((HWO.out w' hS))) ?_; simp only [Act.put, List.setIfInBounds_toArray, List.set_cons_zero, List.set_cons_succ]
  (refine fl_val (v := ?_) (by rfl) ?_ ?_; rotate_left; (intro w' hS; obtain ⟨f0,f1,f2⟩ := hF w' hS; go_simp; with_reducible rfl); simp only [Act.put, List.setIfInBounds_toArray, List.set_cons_zero, List.set_cons_succ])
  (refine fl_val (v := ?_) (by rfl) ?_ ?_; rotate_left; (intro w' hS; obtain ⟨f0,f1,f2⟩ := hF w' hS; go_simp; with_reducible rfl); simp only [Act.put, List.setIfInBounds_toArray, List.set_cons_zero, List.set_cons_succ])
  iterate 5 (refine fl_val (v := ?_) (by rfl) ?_ ?_; rotate_left; (intro w' hS; obtain ⟨f0,f1,f2⟩ := hF w' hS; go_simp; with_reducible rfl); simp only [Act.put, List.setIfInBounds_toArray, List.set_cons_zero, List.set_cons_succ])
  refine fl_call (f := 61) (v := .int .i64 (nw : Int)) (by rfl) rfl (by simp only [List.map_toArray, List.map_cons, List.map_nil]; rfl) Try.func61 (by kernel_rfl) (by kernel_rfl) (fun w' hS => ((HWO.out w' hS))) ?_; simp only [Act.put, List.setIfInBounds_toArray, List.set_cons_zero, List.set_cons_succ]
  (refine fl_val (v := ?_) (by rfl) ?_ ?_; rotate_left; (intro w' hS; obtain ⟨f0,f1,f2⟩ := hF w' hS; go_simp; with_reducible rfl); simp only [Act.put, List.setIfInBounds_toArray, List.set_cons_zero, List.set_cons_succ])
  (refine fl_val (v := ?_) (by rfl) ?_ ?_; rotate_left; (intro w' hS; obtain ⟨f0,f1,f2⟩ := hF w' hS; go_simp; with_reducible rfl); simp only [Act.put, List.setIfInBounds_toArray, List.set_cons_zero, List.set_cons_succ])
  (refine fl_val (v := ?_) (by rfl) ?_ ?_; rotate_left; (intro w' hS; obtain ⟨f0,f1,f2⟩ := hF w' hS; go_simp; with_reducible rfl); simp only [Act.put, List.setIfInBounds_toArray, List.set_cons_zero, List.set_cons_succ])
  refine fl_nil ?_
  intro w4 hS
  go_wp2
  go_ret2
  exact ⟨rfl, hS⟩
end
end Go.Proofs.Yteanpgkonhdbpaa
