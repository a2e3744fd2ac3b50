/- The device's Erase, walked. -/
import Derived.Test.YteanpgkonhdbpaaFlashProg
import Derived.IntWalk
namespace Go.Proofs.Yteanpgkonhdbpaa
open Go.RowKit

theorem DevAt.setWorn {w : World} {g b1 b2 : Nat} {d : Dev} (h : DevAt w g b1 b2 d) (i x : Nat) : DevAt (w.setCell ⟨b2, i, none⟩ (.int .i64 (x : Int))) g b1 b2 { d with worn := d.worn.set i x } :=
  ⟨Blk.cast (h.dev.far (p := ⟨b2, i, none⟩) h.ne2 _) (by simp [devV]), h.bits.far (p := ⟨b2, i, none⟩) h.ne3 _, Blk.cast (h.worn.set_ i _) (natsV_set d.worn i x)⟩
theorem eraseBits_len (t : Bool) (sd : Nat) (l : List Nat) (b : Nat) : ∀ k, (eraseBits t sd l b k).length = l.length
  | 0 => rfl
  | k + 1 => by rw [eraseBits, List.length_set, eraseBits_len]
theorem eraseBits_at (t : Bool) (sd : Nat) (l : List Nat) (b : Nat) (i : Nat) : ∀ k, b + k ≤ i ∨ i < b → (eraseBits t sd l b k).getD i 0 = l.getD i 0
  | 0, _ => rfl
  | k + 1, h => by
    rw [eraseBits, List.getD_eq_getElem?_getD, List.getElem?_set_ne (by omega), ← List.getD_eq_getElem?_getD, eraseBits_at t sd l b i k (by omega)]
/-- The device with a sector's wear gone up. -/
def wornD (d : Dev) (σ : Nat) : Dev := { d with worn := d.worn.set σ (d.worn.getD σ 0 + 1) }

theorem eraseS_yes (d : Dev) (σ : Nat) (hon : d.on = true) (h2 : σ < d.ns) (h3 : d.worn.getD σ 0 < d.lim) : eraseS d σ = ({ (goesS (wornD d σ)).1 with bits := eraseBits (goesS (wornD d σ)).2 d.seed d.bits (σ * d.nw) d.nw }, if (goesS (wornD d σ)).2 then 63 else 0) := by
  unfold eraseS wornD
  rw [if_neg (by simp [hon]), if_neg (by omega), if_neg (by rw [Int.toNat_natCast]; omega)]
  rfl

section
variable (g b1 b2 : Nat) (d : Dev) (s : Int) (w : World) (hd : DevAt w g b1 b2 d) (ho : d.Ok)
include hd ho
set_option maxRecDepth 100000 in
set_option maxHeartbeats 1000000 in
theorem ferase_no (h : d.on = false ∨ ¬ (0 ≤ s ∧ s < d.ns) ∨ d.lim ≤ d.worn.getD s.toNat 0) : Calls Try.prog 100 #[.pointer (some ⟨g, 0, none⟩), .int .i64 s] w (Leaves w g b1 b2 (eraseS d s).1 (eraseS d s).2) := by
  obtain ⟨_, c1, _, c3, c4, _⟩ := hd.cells
  have hns := ho.ns2
  have HR : Hid (eraseS d s = if d.on = false then (d, 63) else if ¬ (0 ≤ s ∧ s < d.ns) then (d, 60) else if d.lim ≤ d.worn.getD s.toNat 0 then (d, 62) else
    ({ (goesS { d with worn := d.worn.set s.toNat (d.worn.getD s.toNat 0 + 1) }).1 with bits := eraseBits (goesS { d with worn := d.worn.set s.toNat (d.worn.getD s.toNat 0 + 1) }).2 d.seed d.bits (s.toNat * d.nw) d.nw }, if (goesS { d with worn := d.worn.set s.toNat (d.worn.getD s.toNat 0 + 1) }).2 then 63 else 0)) := show _ = _ from rfl
  have HD := Lib.hid hd
  have hwl := ho.wlen
  have hlim := ho.lim2
  rw [hwl] at c3
  cases hon : d.on
  · have HR2 : Hid (eraseS d s = (d, 63)) := by show _ = _; rw [HR.out, if_pos hon]
    rw [hon] at c4
    rw [HR2.out]
    clear HR hon hd ho h hwl
    go_enter Try.func100, Try.ntmps100
    go_wp2
    go_ret
    exact ⟨rfl, HD.out, Keep.refl _ _⟩
  · rw [hon] at c4
    have hcase : s < 0 ∨ (0 ≤ s ∧ (d.ns : Int) ≤ s) ∨ (0 ≤ s ∧ s < d.ns) := by omega
    rcases hcase with h1 | ⟨h1, h2⟩ | ⟨h1, h2⟩
    · have HR2 : Hid (eraseS d s = (d, 60)) := by show _ = _; rw [HR.out, if_neg (by simp [hon]), if_pos (by omega)]
      rw [HR2.out]
      clear HR hon hd ho h hwl
      go_enter Try.func100, Try.ntmps100
      go_wp2
      go_ret
      exact ⟨rfl, HD.out, Keep.refl _ _⟩
    · have HR2 : Hid (eraseS d s = (d, 60)) := by show _ = _; rw [HR.out, if_neg (by simp [hon]), if_pos (by omega)]
      rw [HR2.out]
      clear HR hon hd ho h hwl
      go_enter Try.func100, Try.ntmps100
      go_wp2
      go_ret
      exact ⟨rfl, HD.out, Keep.refl _ _⟩
    · obtain ⟨σ, rfl⟩ : ∃ σ : Nat, s = (σ : Int) := ⟨s.toNat, by omega⟩
      have hle : d.lim ≤ d.worn.getD σ 0 := by
        rcases h with h | h | h
        · rw [hon] at h; cases h
        · omega
        · exact h
      have cw := hd.wear (i := σ) (by omega)
      have HR2 : Hid (eraseS d σ = (d, 62)) := by show _ = _; rw [HR.out, if_neg (by simp [hon]), if_neg (by omega)]; exact if_pos hle
      rw [HR2.out]
      have hle2 : (d.lim : Int) ≤ ((d.worn.getD σ 0 : Nat) : Int) := by omega
      clear HR hon hd ho h hwl hle
      generalize d.worn.getD σ 0 = x at *
      generalize d.lim = lim at *
      generalize d.ns = ns at *
      go_enter Try.func100, Try.ntmps100
      go_wp2
      go_quiet (fail)
      go_wp2
      go_ret
      refine ⟨rfl, ?_, ?_⟩
      · exact HD.out.keep ((Keep.refl [] w).drewN nq) (by simp) (by simp) (by simp)
      · exact (Keep.refl _ w).drewN nq

end

def erE (t : Bool) : Int := if t then 63 else 0
/-- The state behind k words. -/
def erD (d d2 : Dev) (t : Bool) (σ k : Nat) : Dev := { d2 with bits := eraseBits t d.seed d.bits (σ * d.nw) k }

theorem erD_zero (d d2 : Dev) (t : Bool) (σ : Nat) (h : d2.bits = d.bits) : erD d d2 t σ 0 = d2 := by
  cases d2
  simp only at h
  subst h
  rfl
theorem erD_succ (d d2 : Dev) (t : Bool) (σ k : Nat) : erD d d2 t σ (k + 1) = { erD d d2 t σ k with bits := (erD d d2 t σ k).bits.set (σ * d.nw + k) (if t then (d.bits.getD (σ * d.nw + k) 0) ||| mSeq (max d.seed 1) k else 4294967295) } := rfl
theorem erD_bits (d d2 : Dev) (t : Bool) (σ k : Nat) : (erD d d2 t σ k).bits.length = d.bits.length ∧ (erD d d2 t σ k).bits.getD (σ * d.nw + k) 0 = d.bits.getD (σ * d.nw + k) 0 :=
  ⟨eraseBits_len _ _ _ _ _, eraseBits_at _ _ _ _ _ _ (.inl (Nat.le_refl _))⟩

set_option maxRecDepth 100000 in
set_option maxHeartbeats 2000000 in
theorem ferase_yes (g b1 b2 : Nat) (d : Dev) (σ : Nat) (w : World) (hd : DevAt w g b1 b2 d) (ho : d.Ok) (hon : d.on = true) (h2 : σ < d.ns) (h3 : d.worn.getD σ 0 < d.lim) :
    Calls Try.prog 100 #[.pointer (some ⟨g, 0, none⟩), .int .i64 (σ : Int)] w (Leaves w g b1 b2 (eraseS d σ).1 (eraseS d σ).2) := by
  have HE := Lib.hid (eraseS_yes d σ hon h2 h3)
  rw [HE.out]
  clear HE
  obtain ⟨c0, c1, c2, c3, c4, _⟩ := hd.cells
  have hns := ho.ns2
  have hnw := ho.nw2
  have hnw1 := ho.nw1
  have hlim := ho.lim2
  have hwl := ho.wlen
  have hbl := ho.blen
  rw [hwl] at c3
  rw [hon] at c4
  have cw := hd.wear (i := σ) (by omega)
  have fw := hd.worn.frozen σ
  have hlo : σ * d.nw + d.nw ≤ d.bits.length := by rw [hbl]; have := Nat.mul_le_mul_right d.nw (show σ + 1 ≤ d.ns by omega); rw [Nat.add_mul, Nat.one_mul] at this; exact this
  have hb6 := bits_le d ho
  have HD := Lib.hid hd
  have hx : d.worn.getD σ 0 ≤ 1048576 := by omega
  have hx2 : (((d.worn.getD σ 0 : Nat) : Int)) < (d.lim : Int) := by omega
  have hgo : ∀ W, DevAt W g b1 b2 (wornD d σ) → Calls Try.prog 102 #[.pointer (some ⟨g, 0, none⟩)] W fun e w' => e = .returned (.bool (goesS (wornD d σ)).2) ∧ DevAt w' g b1 b2 (goesS (wornD d σ)).1 ∧ Keep [g] W w' := fun W h => fgoes_any g b1 b2 _ W h ho.left2
  obtain ⟨eb, ew, es, en, ewn, el, _⟩ := goes_same (wornD d σ)
  have EB : Hid ((goesS (wornD d σ)).1.bits = d.bits) := eb
  have EB1 : Hid ((wornD d σ).bits = d.bits ∧ (wornD d σ).nw = d.nw) := ⟨rfl, rfl⟩
  have ES : Hid ((goesS (wornD d σ)).1.seed = d.seed) := es
  have EW : Hid ((goesS (wornD d σ)).1.nw = d.nw) := ewn
  have HGO := Lib.hid hgo
  have hset : ∀ W, DevAt W g b1 b2 d → DevAt (W.setCell ⟨b2, σ, none⟩ (.int .i64 ((d.worn.getD σ 0 : Nat) + 1 : Int))) g b1 b2 (wornD d σ) := fun W h => h.setWorn σ (d.worn.getD σ 0 + 1)
  have HSET := Lib.hid hset
  have HO := Lib.hid ho
  have hl0 : (0 : Int) ≤ ((σ * d.nw : Nat) : Int) := by omega
  have HM1 : Hid ((σ : Int) * (d.nw : Int) = ((σ * d.nw : Nat) : Int)) := by show _ = _; rw [Int.natCast_mul]
  have HM2 : Hid (((σ : Int) + 1) * (d.nw : Int) = ((σ * d.nw + d.nw : Nat) : Int)) := by show _ = _; rw [Int.add_mul, Int.natCast_add, Int.natCast_mul, Int.one_mul]
  clear hd ho hon hwl h3 eb ew es en ewn el hgo hset
  change Calls _ _ _ _ (Leaves w g b1 b2 (erD d (goesS (wornD d σ)).1 (goesS (wornD d σ)).2 σ d.nw) (erE (goesS (wornD d σ)).2))
  generalize (goesS (wornD d σ)).2 = tt at *
  generalize (goesS (wornD d σ)).1 = d2 at *
  generalize wornD d σ = d1 at *
  generalize hxe : d.worn.getD σ 0 = x at *
  have HXE := Lib.hid hxe
  clear hxe
  go_enter Try.func100, Try.ntmps100
  go_wp2
  go_quiet (fail)
  have hd0 := HD.out.keep ((Keep.refl [] w).drewN nq) (by simp) (by simp) (by simp)
  have k0 := (Keep.refl [] w).drewN nq
  clear c0 c1 c2 c3 c4 cw fw
  generalize w.drewN nq = w0 at *
  obtain ⟨c0, _, c2, c3, _⟩ := hd0.cells
  rw [HO.out.wlen] at c3
  have fw := hd0.worn.frozen σ
  have cw := hd0.wear (i := σ) (by rw [HO.out.wlen]; exact h2)
  rw [HXE.out] at cw
  have HD0 := Lib.hid hd0
  have K0 := Lib.hid k0
  clear hd0 k0
  go_upto_region 8 with fail
  have hd1 := HSET.out _ HD0.out
  have k1 : Keep [g, b1, b2] w (w0.setCell ⟨b2, σ, none⟩ (.int .i64 ((x : Int) + 1))) := (K0.out.mono (G := [g, b1, b2]) (by simp)).setCell (by simp) _
  clear c0 c2 c3 fw cw HD0 HD
  generalize w0.setCell ⟨b2, σ, none⟩ (.int .i64 ((x : Int) + 1)) = W1 at *
  obtain ⟨c0, _, c2, _⟩ := hd1.cells
  rw [EB1.out.1] at c2
  rw [EB1.out.2] at c0
  have HD1 := Lib.hid hd1
  have K1 := Lib.hid k1
  clear hd1 k1
  have hw1 : IntKind.i64.wrap ((σ : Int) * d.nw) = ((σ * d.nw : Nat) : Int) := by rw [HM1.out]; exact IntWalk.i64_in _ (by omega)
  have hw2 : IntKind.i64.wrap ((σ : Int) + 1) = (σ : Int) + 1 := IntWalk.i64_in _ (by omega)
  have hw3 : IntKind.i64.wrap (((σ : Int) + 1) * d.nw) = ((σ * d.nw + d.nw : Nat) : Int) := by rw [HM2.out]; exact IntWalk.i64_in _ (by omega)
  have hs1 : ((σ * d.nw : Nat) : Int) ≤ ((σ * d.nw + d.nw : Nat) : Int) := by omega
  have hs2 : ((σ * d.nw + d.nw : Nat) : Int) ≤ (d.bits.length : Int) := by omega
  generalize hlo2 : σ * d.nw = lo at *
  have HLO := Lib.hid hlo2
  clear hlo2
  have hs3 : lo < d.bits.length := by omega
  have hs4 : (d.bits.length = lo) = False := eq_false (by omega)
  have hs5 : (lo = d.bits.length) = False := eq_false (by omega)
  go_quiet (fail)
  have hd2 := HD1.out.keep ((Keep.refl [] W1).drewN nq) (by simp) (by simp) (by simp)
  have k2 := K1.out.drewN nq
  clear hw1 hw2 hw3 c0 c2 HD1 K1
  generalize W1.drewN nq = W2 at *
  go_wp2_with fail
  refine (HGO.out W2 hd2).mono ?_
  rintro e W3 ⟨rfl, hd3, k3⟩
  have K3 := Lib.hid (k2.trans k3 (by simp))
  obtain ⟨_, _, _, _, _, _, _, c7, _⟩ := hd3.cells
  rw [ES.out] at c7
  have HD3 := Lib.hid hd3
  clear hd2 k2 hd3 k3 HGO HSET
  have hl0' : (0 : Int) ≤ (lo : Int) := by omega
  cases tt
  · have HZ : Hid (DevAt W3 g b1 b2 (erD d d2 false σ 0)) := by show DevAt _ _ _ _ _; rw [erD_zero _ _ _ _ EB.out]; exact HD3.out
    clear c7
    go_wp2_with fail
    go_loopw [92] (fun vi wr => ∃ k : Nat, k ≤ d.nw ∧ vi = .int .i64 k ∧ DevAt wr g b1 b2 (erD d d2 false σ k) ∧ Keep [g, b1, b2] w wr) (fun vi _ => d.nw - (intOf vi).toNat)
    case atStart => exact ⟨0, Nat.zero_le _, rfl, HZ.out, K3.out⟩
    case round =>
      obtain ⟨k, hk, rfl, hdk, kk⟩ := hrel
      by_cases hlt : k < d.nw
      · obtain ⟨hl, hv⟩ := erD_bits d d2 false σ k
        rw [HLO.out] at hv
        have hc := hdk.bit (i := lo + k) (by omega)
        rw [hv] at hc
        have hf := hdk.bits.frozen (lo + k)
        have HS : Hid (DevAt (wr.setCell ⟨b1, lo + k, none⟩ (.int .u32 4294967295)) g b1 b2 (erD d d2 false σ (k + 1))) := by
          show DevAt _ _ _ _ _
          rw [erD_succ, HLO.out]
          exact hdk.setBit (lo + k) 4294967295
        have HK := Lib.hid (kk.setCell (p := ⟨b1, lo + k, none⟩) (by simp) (.int .u32 4294967295))
        clear hdk kk hl hv
        go_wp2_with fail
        go_roundw
        case rel => exact ⟨k + 1, by omega, by go_num, HS.out, HK.out⟩
        case measure => simp [intOf] <;> omega
      · obtain ⟨m, hm⟩ : ∃ m, d.nw = m := ⟨_, rfl⟩
        have HR : Hid (Leaves w g b1 b2 (erD d d2 false σ d.nw) (erE false) (.returned (.int .i64 0)) wr) := by
          obtain rfl : k = d.nw := by omega
          exact ⟨rfl, hdk, kk⟩
        clear hdk kk
        go_wp2_with fail
        go_ret
        exact HR.out
  · go_wp2_with fail
    refine (pseeded_any d.seed W3).mono ?_
    rintro e W4 ⟨rfl, k4⟩
    have hms : max d.seed 1 < 4294967296 := by have := HO.out.seed2; omega
    have HMS := Lib.hid hms
    have HZ : Hid (DevAt (W4.alloc (.cells #[.int .u32 ((max d.seed 1 : Nat) : Int)] 169)) g b1 b2 (erD d d2 true σ 0)) := by show DevAt _ _ _ _ _; rw [erD_zero _ _ _ _ EB.out]; exact HD3.out.keep (k4.alloc (.cells #[.int .u32 ((max d.seed 1 : Nat) : Int)] 169)) (by simp) (by simp) (by simp)
    have HM4 : Hid (Blk (W4.alloc (.cells #[.int .u32 ((max d.seed 1 : Nat) : Int)] 169)) W4.heap.size 169 #[.int .u32 ((mSeq (max d.seed 1) 0 : Nat) : Int)]) := Blk.new W4 169 #[.int .u32 ((max d.seed 1 : Nat) : Int)]
    have K4 := Lib.hid (K3.out.then (k4.alloc (.cells #[.int .u32 ((max d.seed 1 : Nat) : Int)] 169)))
    have hg4 := k4.size
    have hwz : w.heap.size ≤ W4.heap.size := Nat.le_trans K3.out.size hg4
    have l0 := HD3.out.dev.lt
    have l1 := HD3.out.bits.lt
    have l2 := HD3.out.worn.lt
    clear k4 c7 hms
    go_wp2_with fail
    generalize W4.alloc (.cells #[.int .u32 ((max d.seed 1 : Nat) : Int)] 169) = W5 at *
    go_loopw [77] (fun vi wr => ∃ k : Nat, k ≤ d.nw ∧ vi = .int .i64 k ∧ DevAt wr g b1 b2 (erD d d2 true σ k) ∧ Blk wr W4.heap.size 169 #[.int .u32 ((mSeq (max d.seed 1) k : Nat) : Int)] ∧ Keep [g, b1, b2] w wr) (fun vi _ => d.nw - (intOf vi).toNat)
    case atStart => exact ⟨0, Nat.zero_le _, rfl, HZ.out, HM4.out, K4.out⟩
    case round =>
      obtain ⟨k, hk, rfl, hdk, hmk, kk⟩ := hrel
      by_cases hlt : k < d.nw
      · obtain ⟨hl, hv⟩ := erD_bits d d2 true σ k
        rw [HLO.out] at hv
        have hc := hdk.bit (i := lo + k) (by omega)
        rw [hv] at hc
        have hf := hdk.bits.frozen (lo + k)
        have hms2 := mSeq_lt HMS.out k
        have hb := bit_lt d HO.out (lo + k)
        have HV := Lib.hid hv
        have HL := Lib.hid hl
        have HM := Lib.hid hmk
        have HDK := Lib.hid hdk
        have HKK := Lib.hid kk
        have HMS2 := Lib.hid hms2
        have HB := Lib.hid hb
        have hik : (k : Int) < (d.nw : Int) := by omega
        have hik0 : (0 : Int) ≤ (k : Int) := by omega
        have hlk : lo + k < d.bits.length := by omega
        have hsz := kk.size
        have n0 : g ≠ W4.heap.size := by omega
        have n1 : b1 ≠ W4.heap.size := by omega
        have n2 : b2 ≠ W4.heap.size := by omega
        have HN : Hid (g ≠ W4.heap.size ∧ b1 ≠ W4.heap.size ∧ b2 ≠ W4.heap.size ∧ w.heap.size ≤ W4.heap.size) := ⟨n0, n1, n2, hwz⟩
        have HLK := Lib.hid hlk
        clear hdk kk hmk hl hv hms2 hb n0 n1 n2 hlk hsz HZ HM4 K4 HD3 K3 HMS hs1 hs2 hs3 hs4 hs5 l0 l1 l2 hwz hg4
        have HSU : Hid (∀ W, DevAt W g b1 b2 (erD d d2 true σ k) → DevAt (W.setCell ⟨b1, lo + k, none⟩ (.int .u32 ((d.bits.getD (lo + k) 0 ||| mSeq (max d.seed 1) k : Nat) : Int))) g b1 b2 (erD d d2 true σ (k + 1))) := by
          intro W hW
          rw [erD_succ, HLO.out]
          exact hW.setBit (lo + k) _
        have HNX : Hid (nextM (mSeq (max d.seed 1) k) = mSeq (max d.seed 1) (k + 1)) := show _ = _ from rfl
        generalize mSeq (max d.seed 1) k = m at *
        generalize hbv : d.bits.getD (lo + k) 0 = b at *
        have HBV := Lib.hid hbv
        clear hbv
        go_upto_region 14 with fail
        refine wp_region_held_drew (by kernel_rfl) (S := fun _ => True) trivial (fun hS => ?_)
        (refine ah_take (v := ?_) 0 rfl (by kernel_rfl) (by kernel_rfl) (by kernel_rfl) (fun _ _ _ h => h) ?_ hS ?_; rotate_left; (intro w' hSw; (try dsimp only at hSw); go_simp; try with_reducible rfl); simp only [Act.put, List.setIfInBounds_toArray, List.set_cons_zero, List.set_cons_succ])
        (refine ah_take (v := ?_) 1 rfl (by kernel_rfl) (by kernel_rfl) (by kernel_rfl) (fun _ _ _ h => h) ?_ hS ?_; rotate_left; (intro w' hSw; (try dsimp only at hSw); go_simp; try with_reducible rfl); simp only [Act.put, List.setIfInBounds_toArray, List.set_cons_zero, List.set_cons_succ])
        (refine ah_take (v := ?_) 2 rfl (by kernel_rfl) (by kernel_rfl) (by kernel_rfl) (fun _ _ _ h => h) ?_ hS ?_; rotate_left; (intro w' hSw; (try dsimp only at hSw); go_simp; try with_reducible rfl); simp only [Act.put, List.setIfInBounds_toArray, List.set_cons_zero, List.set_cons_succ])
        (refine ah_take (v := ?_) 3 rfl (by kernel_rfl) (by kernel_rfl) (by kernel_rfl) (fun _ _ _ h => h) ?_ hS ?_; rotate_left; (intro w' hSw; (try dsimp only at hSw); go_simp; try with_reducible rfl); simp only [Act.put, List.setIfInBounds_toArray, List.set_cons_zero, List.set_cons_succ])
        (refine ah_take (v := ?_) 4 rfl (by kernel_rfl) (by kernel_rfl) (by kernel_rfl) (fun _ _ _ h => h) ?_ hS ?_; rotate_left; (intro w' hSw; (try dsimp only at hSw); go_simp; try with_reducible rfl); simp only [Act.put, List.setIfInBounds_toArray, List.set_cons_zero, List.set_cons_succ])
        refine ah_two 5 6 (by kernel_rfl) ?_ ?_
        · refine oph_run (v := .int .u32 (b : Int)) (w' := wr.drew) 5 rfl (by go_simp) hS ?_
          (simp only [Act.put, List.setIfInBounds_toArray, List.set_cons_zero, List.set_cons_succ])
          refine ah_one 6 (by kernel_rfl) ?_
          refine oph_call (vs := #[.pointer (some ⟨W4.heap.size, 0, none⟩)]) 6 rfl (by simp only [List.map_toArray, List.map_cons, List.map_nil]; rfl) Try.func105 (by kernel_rfl) (by kernel_rfl) (pnext_any W4.heap.size m _ HMS2.out HM.out.drew) ?_
          rintro e w4 ⟨rfl, hb4, k4⟩
          have hd4 := (HDK.out.keep ((Keep.refl [] wr).drew) (by simp) (by simp) (by simp)).keep k4 (by simpa using HN.out.1) (by simpa using HN.out.2.1) (by simpa using HN.out.2.2.1)
          have q3 := hd4.bit (i := lo + k) (by rw [HL.out]; exact HLK.out)
          rw [HV.out] at q3
          have q4 := hd4.bits.frozen (lo + k)
          have HD4 := Lib.hid hd4
          have HM4 := Lib.hid hb4
          have K4 := Lib.hid k4
          refine ⟨_, rfl, trivial, ?_⟩
          clear hd4 hb4 k4
          (simp only [Act.put, List.setIfInBounds_toArray, List.set_cons_zero, List.set_cons_succ])
          refine ah_one 7 (by kernel_rfl) ?_
          refine oph_call (vs := #[.int .u32 (b : Int), .int .u32 (m : Int)]) 7 rfl (by simp only [List.map_toArray, List.map_cons, List.map_nil]; rfl) Try.func128 (by kernel_rfl) (by kernel_rfl) (prises_any b m _ HB.out HMS2.out) ?_
          rintro e w5 ⟨rfl, rfl⟩
          refine ⟨_, rfl, trivial, ?_⟩
          (simp only [Act.put, List.setIfInBounds_toArray, List.set_cons_zero, List.set_cons_succ])
          (refine ah_take (v := ?_) 8 rfl (by kernel_rfl) (by kernel_rfl) (by kernel_rfl) (fun _ _ _ h => h) ?_ hS ?_; rotate_left; (intro w' hSw; (try dsimp only at hSw); go_simp; try with_reducible rfl); simp only [Act.put, List.setIfInBounds_toArray, List.set_cons_zero, List.set_cons_succ])
          refine ah_one 9 (by kernel_rfl) ?_
          refine oph_store1 (v := .int .u32 ((b ||| m : Nat) : Int)) 9 rfl rfl rfl (by kernel_rfl) rfl rfl q3 q4 trivial ?_
          refine wpAnyH_done (by kernel_rfl) ?_ _
          (simp only [Act.put])
          have HF1 := Lib.hid (HSU.out _ HD4.out)
          have HF2 := Lib.hid (HM4.out.far (p := ⟨b1, lo + k, none⟩) (fun e => HN.out.2.1 e.symm) (.int .u32 ((b ||| m : Nat) : Int)))
          rw [HNX.out] at HF2
          have HF3 := Lib.hid (((HKK.out.drew.trans K4.out (fun x hx hlx => by have := HN.out.2.2.2; simp at hx; omega))).setCell (p := ⟨b1, lo + k, none⟩) (by simp) (.int .u32 ((b ||| m : Nat) : Int)))
          go_wp2_with fail
          go_roundw
          case rel => exact ⟨k + 1, by omega, by go_num, HF1.out, HF2.out, HF3.out⟩
          case measure => simp [intOf] <;> omega
        · refine oph_call (vs := #[.pointer (some ⟨W4.heap.size, 0, none⟩)]) 6 rfl (by simp only [List.map_toArray, List.map_cons, List.map_nil]; rfl) Try.func105 (by kernel_rfl) (by kernel_rfl) (pnext_any W4.heap.size m _ HMS2.out HM.out.drew) ?_
          rintro e w4 ⟨rfl, hb4, k4⟩
          have hd4 := (HDK.out.keep ((Keep.refl [] wr).drew) (by simp) (by simp) (by simp)).keep k4 (by simpa using HN.out.1) (by simpa using HN.out.2.1) (by simpa using HN.out.2.2.1)
          have q3 := hd4.bit (i := lo + k) (by rw [HL.out]; exact HLK.out)
          rw [HV.out] at q3
          have q4 := hd4.bits.frozen (lo + k)
          have HD4 := Lib.hid hd4
          have HM4 := Lib.hid hb4
          have K4 := Lib.hid k4
          refine ⟨_, rfl, trivial, ?_⟩
          clear hd4 hb4 k4
          (simp only [Act.put, List.setIfInBounds_toArray, List.set_cons_zero, List.set_cons_succ])
          refine ah_one 5 (by kernel_rfl) ?_
          refine oph_run (v := .int .u32 (b : Int)) (w' := w4) 5 rfl (by go_simp) hS ?_
          (simp only [Act.put, List.setIfInBounds_toArray, List.set_cons_zero, List.set_cons_succ])
          refine ah_one 7 (by kernel_rfl) ?_
          refine oph_call (vs := #[.int .u32 (b : Int), .int .u32 (m : Int)]) 7 rfl (by simp only [List.map_toArray, List.map_cons, List.map_nil]; rfl) Try.func128 (by kernel_rfl) (by kernel_rfl) (prises_any b m _ HB.out HMS2.out) ?_
          rintro e w5 ⟨rfl, rfl⟩
          refine ⟨_, rfl, trivial, ?_⟩
          (simp only [Act.put, List.setIfInBounds_toArray, List.set_cons_zero, List.set_cons_succ])
          (refine ah_take (v := ?_) 8 rfl (by kernel_rfl) (by kernel_rfl) (by kernel_rfl) (fun _ _ _ h => h) ?_ hS ?_; rotate_left; (intro w' hSw; (try dsimp only at hSw); go_simp; try with_reducible rfl); simp only [Act.put, List.setIfInBounds_toArray, List.set_cons_zero, List.set_cons_succ])
          refine ah_one 9 (by kernel_rfl) ?_
          refine oph_store1 (v := .int .u32 ((b ||| m : Nat) : Int)) 9 rfl rfl rfl (by kernel_rfl) rfl rfl q3 q4 trivial ?_
          refine wpAnyH_done (by kernel_rfl) ?_ _
          (simp only [Act.put])
          have HF1 := Lib.hid (HSU.out _ HD4.out)
          have HF2 := Lib.hid (HM4.out.far (p := ⟨b1, lo + k, none⟩) (fun e => HN.out.2.1 e.symm) (.int .u32 ((b ||| m : Nat) : Int)))
          rw [HNX.out] at HF2
          have HF3 := Lib.hid (((HKK.out.drew.trans K4.out (fun x hx hlx => by have := HN.out.2.2.2; simp at hx; omega))).setCell (p := ⟨b1, lo + k, none⟩) (by simp) (.int .u32 ((b ||| m : Nat) : Int)))
          go_wp2_with fail
          go_roundw
          case rel => exact ⟨k + 1, by omega, by go_num, HF1.out, HF2.out, HF3.out⟩
          case measure => simp [intOf] <;> omega
      · have HR : Hid (Leaves w g b1 b2 (erD d d2 true σ d.nw) (erE true) (.returned (.int .i64 63)) wr) := by
          obtain rfl : k = d.nw := by omega
          exact ⟨rfl, hdk, kk⟩
        clear hdk kk hmk
        go_wp2_with fail
        go_ret
        exact HR.out
end Go.Proofs.Yteanpgkonhdbpaa
