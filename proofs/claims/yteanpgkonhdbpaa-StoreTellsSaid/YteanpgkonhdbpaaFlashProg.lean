/- The device's Program, walked. -/
import Derived.Test.YteanpgkonhdbpaaFlashNew
import Derived.Test.YteanpgkonhdbpaaRef05
import Derived.Deep.DeepCutAuto
import Derived.Deep.RegionHeld3
import Derived.Test.YteanpgkonhdbpaaReg
namespace Go.Proofs.Yteanpgkonhdbpaa
open Go.RowKit

theorem diff_zero (v b : Nat) (hv : v < 4294967296) (hb : b < 4294967296) : ((diffN v b : Nat) : Int) = 0 ↔ v ||| b = b := by
  have h1 : ((diffN v b : Nat) : Int) = 0 ↔ diffN v b = 0 := by omega
  rw [h1]
  constructor
  · intro h
    apply Nat.eq_of_testBit_eq
    intro i
    have := congrArg (fun x => x.testBit i) h
    simp only [diffN_testBit _ _ _ hv hb, Nat.zero_testBit] at this
    rw [Nat.testBit_or]
    cases h1 : v.testBit i <;> cases h2 : b.testBit i <;> simp_all
  · intro h
    apply Nat.eq_of_testBit_eq
    intro i
    have := congrArg (fun x => x.testBit i) h
    simp only [Nat.testBit_or] at this
    rw [diffN_testBit _ _ _ hv hb, Nat.zero_testBit]
    cases h1 : v.testBit i <;> cases h2 : b.testBit i <;> simp_all
theorem goes_same (d : Dev) : (goesS d).1.bits = d.bits ∧ (goesS d).1.worn = d.worn ∧ (goesS d).1.seed = d.seed ∧ (goesS d).1.ns = d.ns ∧ (goesS d).1.nw = d.nw ∧ (goesS d).1.lim = d.lim ∧ (goesS d).1.left ≤ d.left := by
  unfold goesS
  split
  · split
    · exact ⟨rfl, rfl, rfl, rfl, rfl, rfl, by show d.left - 1 ≤ d.left; omega⟩
    · exact ⟨rfl, rfl, rfl, rfl, rfl, rfl, Nat.le_refl _⟩
  · exact ⟨rfl, rfl, rfl, rfl, rfl, rfl, Nat.le_refl _⟩
theorem Dev.Ok.goes {d : Dev} (h : d.Ok) : (goesS d).1.Ok := by
  obtain ⟨e1, e2, e3, e4, e5, e6, e7⟩ := goes_same d
  refine ⟨by rw [e4]; exact h.ns1, by rw [e4]; exact h.ns2, by rw [e5]; exact h.nw1, by rw [e5]; exact h.nw2, by rw [e6]; exact h.lim2, by rw [e1, e4, e5]; exact h.blen, by rw [e2, e4]; exact h.wlen, by rw [e1]; exact h.bit, by rw [e2, e6]; exact h.wear, by rw [e3]; exact h.seed2, Nat.le_trans e7 h.left2⟩
theorem Dev.Ok.setBit {d : Dev} (h : d.Ok) (i x : Nat) (hx : x < 4294967296) : ({ d with bits := d.bits.set i x } : Dev).Ok :=
  ⟨h.ns1, h.ns2, h.nw1, h.nw2, h.lim2, by show (d.bits.set i x).length = _; rw [List.length_set]; exact h.blen, h.wlen, fun y hy => by
    rcases List.mem_or_eq_of_mem_set hy with h' | h'
    · exact h.bit y h'
    · rw [h']; exact hx, h.wear, h.seed2, h.left2⟩
theorem bit_lt (d : Dev) (h : d.Ok) (i : Nat) : d.bits.getD i 0 < 4294967296 := by
  rcases Nat.lt_or_ge i d.bits.length with hi | hi
  · rw [List.getD_eq_getElem?_getD, List.getElem?_eq_getElem hi]
    exact h.bit _ (List.getElem_mem hi)
  · rw [List.getD_eq_getElem?_getD, List.getElem?_eq_none hi]; decide
theorem DevAt.setBit {w : World} {g b1 b2 : Nat} {d : Dev} (h : DevAt w g b1 b2 d) (i x : Nat) : DevAt (w.setCell ⟨b1, i, none⟩ (.int .u32 (x : Int))) g b1 b2 { d with bits := d.bits.set i x } :=
  ⟨Blk.cast (h.dev.far (p := ⟨b1, i, none⟩) h.ne1 _) (by simp [devV]), Blk.cast (h.bits.set_ i _) (wordsV_set d.bits i x), h.worn.far (p := ⟨b1, i, none⟩) (fun e => h.ne3 e.symm) _⟩

/-- What a writing call of the device leaves. -/
def Leaves (w : World) (g b1 b2 : Nat) (d : Dev) (e : Int) (en : Ending) (w' : World) : Prop := en = .returned (.int .i64 e) ∧ DevAt w' g b1 b2 d ∧ Keep [g, b1, b2] w w'

section
variable (g b1 b2 : Nat) (d : Dev) (s q : Int) (v : Nat) (w : World) (hd : DevAt w g b1 b2 d) (ho : d.Ok) (hv : v < 4294967296)
include hd ho hv
set_option maxRecDepth 100000 in
set_option maxHeartbeats 1000000 in
theorem fprog_any : Calls Try.prog 67 #[.pointer (some ⟨g, 0, none⟩), .int .i64 s, .int .i64 q, .int .u32 (v : Int)] w (Leaves w g b1 b2 (progS d s q v).1 (progS d s q v).2) := by
  obtain ⟨_, _, c2, _, c4, _⟩ := hd.cells
  have hc := Lib.hid (fat_any g b1 b2 d s q w hd ho)
  have HR : Hid (progS d s q v = if d.on = false then (d, 63) else if isS d s q = false then (d, 60) else if v ||| d.bits.getD (atS d s q) 0 ≠ d.bits.getD (atS d s q) 0 then (d, 61)
      else if (goesS d).2 then ({ (goesS d).1 with bits := d.bits.set (atS d s q) (d.bits.getD (atS d s q) 0 &&& (v ||| max d.seed 1)) }, 63) else ({ (goesS d).1 with bits := d.bits.set (atS d s q) v }, 0)) := show _ = _ from rfl
  have hbl := bits_le d ho
  have HD := Lib.hid hd
  have HO := Lib.hid ho
  cases hon : d.on
  · have HR2 : Hid (progS d s q v = (d, 63)) := by show _ = _; rw [HR.out, if_pos hon]
    rw [hon] at c4
    rw [HR2.out]
    have HV := Lib.hid hv
    clear HR hon hd ho hv
    go_enter Try.func67, Try.ntmps67
    go_wp2_with fail
    refine hc.out.mono ?_
    rintro e w' ⟨rfl, rfl⟩
    go_wp2
    go_ret
    exact ⟨rfl, HD.out, Keep.refl _ _⟩
  · rcases is_cases d ho s q with ⟨hi, hvv, hlt⟩ | ⟨hi, hvv⟩
    · have hcell := hd.bit hlt
      have hb := bit_lt d ho (atS d s q)
      have hfz := hd.bits.frozen (atS d s q)
      have HRI : Hid (progS d s q v = if v ||| d.bits.getD (atS d s q) 0 ≠ d.bits.getD (atS d s q) 0 then (d, 61)
          else if (goesS d).2 then ({ (goesS d).1 with bits := d.bits.set (atS d s q) (d.bits.getD (atS d s q) 0 &&& (v ||| max d.seed 1)) }, 63) else ({ (goesS d).1 with bits := d.bits.set (atS d s q) v }, 0)) := by
        show _ = _; rw [HR.out, if_neg (by simp [hon]), if_neg (by simp [hi])]
      have hu : bits .andNot .u32 (v : Int) ((d.bits.getD (atS d s q) 0 : Nat) : Int) = ((diffN v (d.bits.getD (atS d s q) 0) : Nat) : Int) := u32_andNot_nat _ _ hv hb
      have hz := diff_zero v _ hv hb
      have HVV := Lib.hid hvv
      rw [hon] at c4
      have hg := Lib.hid (fgoes_any g b1 b2 d w hd ho.left2)
      have HB := Lib.hid hb
      clear HR hon hi hvv hd ho hb
      by_cases hor : v ||| d.bits.getD (atS d s q) 0 = d.bits.getD (atS d s q) 0
      · have hd0 : ((diffN v (d.bits.getD (atS d s q) 0) : Nat) : Int) = 0 := hz.2 hor
        rw [hd0] at hu
        obtain ⟨eb, ew, es, _⟩ := goes_same d
        cases hgo : (goesS d).2
        · have HR2 : Hid (progS d s q v = ({ (goesS d).1 with bits := d.bits.set (atS d s q) v }, 0)) := by show _ = _; rw [HRI.out, if_neg (fun h => h hor), hgo]; rfl
          rw [HR2.out]
          rw [hgo] at hg
          rw [← eb]
          have EB := Lib.hid eb
          have HV := Lib.hid hv
          clear HRI hor hz hd0 hgo eb ew es hv
          generalize atS d s q = i at *
          generalize d.bits.getD i 0 = b at *
          go_enter Try.func67, Try.ntmps67
          go_wp2_with fail
          refine hc.out.mono ?_
          rintro e w' ⟨rfl, rfl⟩
          rw [HVV.out]
          go_wp2_with fail
          refine hg.out.mono ?_
          rintro e w1 ⟨rfl, hd1, k1⟩
          obtain ⟨_, _, e2, _⟩ := hd1.cells
          rw [EB.out] at e2
          have hl1 : i < (goesS d).1.bits.length := by rw [EB.out]; exact hlt
          have e3 := hd1.bit hl1
          have e4 := hd1.bits.frozen i
          have H1 := Lib.hid (hd1.setBit i v)
          have K1 := Lib.hid ((k1.mono (G := [g, b1, b2]) (by simp)).setCell (p := ⟨b1, i, none⟩) (by simp) (.int .u32 (v : Int)))
          clear hd1 k1 hl1
          go_wp2
          go_ret
          exact ⟨rfl, H1.out, K1.out⟩
        · have HR2 : Hid (progS d s q v = ({ (goesS d).1 with bits := d.bits.set (atS d s q) (d.bits.getD (atS d s q) 0 &&& (v ||| max d.seed 1)) }, 63)) := by show _ = _; rw [HRI.out, if_neg (fun h => h hor), hgo]; rfl
          rw [HR2.out]
          rw [hgo] at hg
          rw [← eb]
          have EB := Lib.hid eb
          have ES := Lib.hid es
          have HV := Lib.hid hv
          have hms : max d.seed 1 < 4294967296 := by have := HO.out.seed2; omega
          have HMS := Lib.hid hms
          clear HRI hor hz hd0 hgo eb ew es hv hms
          generalize atS d s q = i at *
          rw [← EB.out] at hcell HB hu
          generalize hbe : (goesS d).1.bits.getD i 0 = b at *
          have HBE := Lib.hid hbe
          clear hbe
          go_enter Try.func67, Try.ntmps67
          go_wp2_with fail
          refine hc.out.mono ?_
          rintro e w' ⟨rfl, rfl⟩
          rw [HVV.out]
          go_wp2_with fail
          refine hg.out.mono ?_
          rintro e w1 ⟨rfl, hd1, k1⟩
          obtain ⟨_, _, _, _, _, _, _, e7, _⟩ := hd1.cells
          rw [ES.out] at e7
          have HD1 := Lib.hid hd1
          have K1 := Lib.hid k1
          clear hd1 k1 c2 c4 hcell hfz
          go_wp2_with fail
          refine (pseeded_any d.seed w1).mono ?_
          rintro e w2 ⟨rfl, k2⟩
          have HD2 := Lib.hid (HD1.out.keep k2 (by simp) (by simp) (by simp))
          have K2 := Lib.hid (K1.out.then k2)
          clear k2 e7
          generalize max d.seed 1 = m at *
          have l0 := HD2.out.dev.lt
          have l1 := HD2.out.bits.lt
          have l2 := HD2.out.worn.lt
          have hbn := Nat.or_lt_two_pow (n := 32) HV.out HMS.out
          have hd3 : DevAt (w2.alloc (.cells #[.int .u32 (m : Int)] 169)) g b1 b2 (goesS d).1 := HD2.out.keep ((Keep.refl [] w2).alloc _) (by simp) (by simp) (by simp)
          have HM3 := Lib.hid (Blk.new w2 169 #[.int .u32 (m : Int)])
          have K3 := Lib.hid (K2.out.alloc (.cells #[.int .u32 (m : Int)] 169))
          go_upto_region 10 with fail
          have hW : Hid (World.heap (w2.alloc (.cells #[.int .u32 (m : Int)] 169)) = World.heap (w2.alloc (.cells #[.int .u32 (m : Int)] 169))) := rfl
          generalize w2.alloc (.cells #[.int .u32 (m : Int)] 169) = W3 at *
          clear hW
          obtain ⟨_, _, e2, _⟩ := hd3.cells
          rw [EB.out] at e2
          have hl1 : i < (goesS d).1.bits.length := by rw [EB.out]; exact hlt
          have e3 := hd3.bit hl1
          rw [HBE.out] at e3
          have e4 := hd3.bits.frozen i
          have HD3 := Lib.hid hd3
          clear hd3 HD2 HD1 HD hl1
          have HL1 := Lib.hid hbl
          have HF := Lib.hid hbn
          clear hbn
          have hne : b1 ≠ g := fun e => HD3.out.ne1 e.symm
          have HHL := Lib.hid hlt
          have hl0 : (0 : Int) ≤ (i : Int) := by omega
          have hl9 : (i : Int) < (d.bits.length : Int) := by omega
          clear HO hbl hc hg HL1
          refine wp_region_held_drew (by kernel_rfl) (S := fun w' => w'.cell? ⟨g, 2, none⟩ = some (.slice (some ⟨b1, 0, none⟩) d.bits.length d.bits.length)) (by simpa using e2) (fun hS => ?_)
          (refine ah_take (v := ?_) 0 rfl (by kernel_rfl) (by kernel_rfl) (by kernel_rfl) (fun _ _ _ h => h) ?_ hS ?_; rotate_left; (intro w' hSw; (try dsimp only at hSw); go_simp; try with_reducible rfl); simp only [Act.put, List.setIfInBounds_toArray, List.set_cons_zero, List.set_cons_succ])
          (refine ah_take (v := ?_) 1 rfl (by kernel_rfl) (by kernel_rfl) (by kernel_rfl) (fun _ _ _ h => h) ?_ hS ?_; rotate_left; (intro w' hSw; (try dsimp only at hSw); go_simp; try with_reducible rfl); simp only [Act.put, List.setIfInBounds_toArray, List.set_cons_zero, List.set_cons_succ])
          (refine ah_take (v := ?_) 2 rfl (by kernel_rfl) (by kernel_rfl) (by kernel_rfl) (fun _ _ _ h => h) ?_ hS ?_; rotate_left; (intro w' hSw; (try dsimp only at hSw); go_simp; try with_reducible rfl); simp only [Act.put, List.setIfInBounds_toArray, List.set_cons_zero, List.set_cons_succ])
          (refine ah_take (v := ?_) 3 rfl (by kernel_rfl) (by kernel_rfl) (by kernel_rfl) (fun _ _ _ h => h) ?_ hS ?_; rotate_left; (intro w' hSw; (try dsimp only at hSw); go_simp; try with_reducible rfl); simp only [Act.put, List.setIfInBounds_toArray, List.set_cons_zero, List.set_cons_succ])
          (refine ah_take (v := ?_) 4 rfl (by kernel_rfl) (by kernel_rfl) (by kernel_rfl) (fun _ _ _ h => h) ?_ hS ?_; rotate_left; (intro w' hSw; (try dsimp only at hSw); go_simp; try with_reducible rfl); simp only [Act.put, List.setIfInBounds_toArray, List.set_cons_zero, List.set_cons_succ])
          (refine ah_take (v := ?_) 5 rfl (by kernel_rfl) (by kernel_rfl) (by kernel_rfl) (fun _ _ _ h => h) ?_ hS ?_; rotate_left; (intro w' hSw; (try dsimp only at hSw); go_simp; try with_reducible rfl); simp only [Act.put, List.setIfInBounds_toArray, List.set_cons_zero, List.set_cons_succ])
          (refine ah_take (v := ?_) 6 rfl (by kernel_rfl) (by kernel_rfl) (by kernel_rfl) (fun _ _ _ h => h) ?_ hS ?_; rotate_left; (intro w' hSw; (try dsimp only at hSw); go_simp; try with_reducible rfl); simp only [Act.put, List.setIfInBounds_toArray, List.set_cons_zero, List.set_cons_succ])
          (refine ah_take (v := ?_) 7 rfl (by kernel_rfl) (by kernel_rfl) (by kernel_rfl) (fun _ _ _ h => h) ?_ hS ?_; rotate_left; (intro w' hSw; (try dsimp only at hSw); go_simp; try with_reducible rfl); simp only [Act.put, List.setIfInBounds_toArray, List.set_cons_zero, List.set_cons_succ])
          (refine ah_take (v := ?_) 8 rfl (by kernel_rfl) (by kernel_rfl) (by kernel_rfl) (fun _ _ _ h => h) ?_ hS ?_; rotate_left; (intro w' hSw; (try dsimp only at hSw); go_simp; try with_reducible rfl); simp only [Act.put, List.setIfInBounds_toArray, List.set_cons_zero, List.set_cons_succ])
          (refine ah_take (v := ?_) 9 rfl (by kernel_rfl) (by kernel_rfl) (by kernel_rfl) (fun _ _ _ h => h) ?_ hS ?_; rotate_left; (intro w' hSw; (try dsimp only at hSw); go_simp; try with_reducible rfl); simp only [Act.put, List.setIfInBounds_toArray, List.set_cons_zero, List.set_cons_succ])
          (refine ah_take (v := ?_) 10 rfl (by kernel_rfl) (by kernel_rfl) (by kernel_rfl) (fun _ _ _ h => h) ?_ hS ?_; rotate_left; (intro w' hSw; (try dsimp only at hSw); go_simp; try with_reducible rfl); simp only [Act.put, List.setIfInBounds_toArray, List.set_cons_zero, List.set_cons_succ])
          (refine ah_take (v := ?_) 12 rfl (by kernel_rfl) (by kernel_rfl) (by kernel_rfl) (fun _ _ _ h => h) ?_ hS ?_; rotate_left; (intro w' hSw; (try dsimp only at hSw); go_simp; try with_reducible rfl); simp only [Act.put, List.setIfInBounds_toArray, List.set_cons_zero, List.set_cons_succ])
          refine ah_two 11 13 (by kernel_rfl) ?_ ?_
          · refine oph_run (v := .int .u32 (b : Int)) (w' := W3.drew) 11 rfl (by go_simp) hS ?_
            (simp only [Act.put, List.setIfInBounds_toArray, List.set_cons_zero, List.set_cons_succ])
            refine ah_one 13 (by kernel_rfl) ?_
            refine oph_call (vs := #[.pointer (some ⟨w2.heap.size, 0, none⟩)]) 13 rfl (by simp only [List.map_toArray, List.map_cons, List.map_nil]; rfl) Try.func105 (by kernel_rfl) (by kernel_rfl) (pnext_any w2.heap.size m _ HMS.out HM3.out.drew) ?_
            rintro e w4 ⟨rfl, hb4, k4⟩
            have hd4 := (HD3.out.keep ((Keep.refl [] W3).drew) (by simp) (by simp) (by simp)).keep k4 (by simp; omega) (by simp; omega) (by simp; omega)
            obtain ⟨_, _, q2, _⟩ := hd4.cells
            rw [EB.out] at q2
            have hl4 : i < (goesS d).1.bits.length := by rw [EB.out]; exact hlt
            have q3 := hd4.bit hl4
            rw [HBE.out] at q3
            have q4 := hd4.bits.frozen i
            have HD4 := Lib.hid hd4
            have K4 := Lib.hid k4
            refine ⟨_, rfl, q2, ?_⟩
            have hS := q2
            clear hd4 hl4 hb4 k4 q2
            (simp only [Act.put, List.setIfInBounds_toArray, List.set_cons_zero, List.set_cons_succ])
            refine ah_one 14 (by kernel_rfl) ?_
            refine oph_call (vs := #[.int .u32 (b : Int), .int .u32 (v : Int), .int .u32 (m : Int)]) 14 rfl (by simp only [List.map_toArray, List.map_cons, List.map_nil]; rfl) Try.func104 (by kernel_rfl) (by kernel_rfl) (pfalls_any b v m _ HB.out HV.out HMS.out) ?_
            rintro e w5 ⟨rfl, rfl⟩
            refine ⟨_, rfl, hS, ?_⟩
            (simp only [Act.put, List.setIfInBounds_toArray, List.set_cons_zero, List.set_cons_succ])
            (refine ah_take (v := ?_) 15 rfl (by kernel_rfl) (by kernel_rfl) (by kernel_rfl) (fun _ _ _ h => h) ?_ hS ?_; rotate_left; (intro w' hSw; (try dsimp only at hSw); go_simp; try with_reducible rfl); simp only [Act.put, List.setIfInBounds_toArray, List.set_cons_zero, List.set_cons_succ])
            refine ah_one 16 (by kernel_rfl) ?_
            refine oph_store1 (v := .int .u32 ((b &&& (v ||| m) : Nat) : Int)) 16 rfl rfl rfl (by kernel_rfl) rfl rfl q3 q4 (by go_simp) ?_
            refine wpAnyH_done (by kernel_rfl) ?_ _
            (simp only [Act.put])
            go_wp2
            go_ret
            refine ⟨rfl, HD4.out.setBit i _, ?_⟩
            have hsz := K2.out.size
            exact (((K3.out.drew.trans K4.out (fun x hx hlx => by simp at hx; omega)).mono (G := [g, b1, b2]) (by simp)).setCell (by simp) _)
          · refine oph_call (vs := #[.pointer (some ⟨w2.heap.size, 0, none⟩)]) 13 rfl (by simp only [List.map_toArray, List.map_cons, List.map_nil]; rfl) Try.func105 (by kernel_rfl) (by kernel_rfl) (pnext_any w2.heap.size m _ HMS.out HM3.out.drew) ?_
            rintro e w4 ⟨rfl, hb4, k4⟩
            have hd4 := (HD3.out.keep ((Keep.refl [] W3).drew) (by simp) (by simp) (by simp)).keep k4 (by simp; omega) (by simp; omega) (by simp; omega)
            obtain ⟨_, _, q2, _⟩ := hd4.cells
            rw [EB.out] at q2
            have hl4 : i < (goesS d).1.bits.length := by rw [EB.out]; exact hlt
            have q3 := hd4.bit hl4
            rw [HBE.out] at q3
            have q4 := hd4.bits.frozen i
            have HD4 := Lib.hid hd4
            have K4 := Lib.hid k4
            refine ⟨_, rfl, q2, ?_⟩
            have hS := q2
            clear hd4 hl4 hb4 k4 q2
            (simp only [Act.put, List.setIfInBounds_toArray, List.set_cons_zero, List.set_cons_succ])
            refine ah_one 11 (by kernel_rfl) ?_
            refine oph_run (v := .int .u32 (b : Int)) (w' := w4) 11 rfl (by go_simp) hS ?_
            (simp only [Act.put, List.setIfInBounds_toArray, List.set_cons_zero, List.set_cons_succ])
            refine ah_one 14 (by kernel_rfl) ?_
            refine oph_call (vs := #[.int .u32 (b : Int), .int .u32 (v : Int), .int .u32 (m : Int)]) 14 rfl (by simp only [List.map_toArray, List.map_cons, List.map_nil]; rfl) Try.func104 (by kernel_rfl) (by kernel_rfl) (pfalls_any b v m _ HB.out HV.out HMS.out) ?_
            rintro e w5 ⟨rfl, rfl⟩
            refine ⟨_, rfl, hS, ?_⟩
            (simp only [Act.put, List.setIfInBounds_toArray, List.set_cons_zero, List.set_cons_succ])
            (refine ah_take (v := ?_) 15 rfl (by kernel_rfl) (by kernel_rfl) (by kernel_rfl) (fun _ _ _ h => h) ?_ hS ?_; rotate_left; (intro w' hSw; (try dsimp only at hSw); go_simp; try with_reducible rfl); simp only [Act.put, List.setIfInBounds_toArray, List.set_cons_zero, List.set_cons_succ])
            refine ah_one 16 (by kernel_rfl) ?_
            refine oph_store1 (v := .int .u32 ((b &&& (v ||| m) : Nat) : Int)) 16 rfl rfl rfl (by kernel_rfl) rfl rfl q3 q4 (by go_simp) ?_
            refine wpAnyH_done (by kernel_rfl) ?_ _
            (simp only [Act.put])
            go_wp2
            go_ret
            refine ⟨rfl, HD4.out.setBit i _, ?_⟩
            have hsz := K2.out.size
            exact (((K3.out.drew.trans K4.out (fun x hx hlx => by simp at hx; omega)).mono (G := [g, b1, b2]) (by simp)).setCell (by simp) _)
      · have HR2 : Hid (progS d s q v = (d, 61)) := by show _ = _; rw [HRI.out, if_pos hor]
        rw [HR2.out]
        have hne : (((diffN v (d.bits.getD (atS d s q) 0) : Nat) : Int) == 0) = false := by
          have := fun h => hor (hz.1 h)
          simpa using this
        have HV := Lib.hid hv
        clear HRI hor hz hv
        generalize atS d s q = i at *
        generalize d.bits.getD i 0 = b at *
        generalize diffN v b = x at *
        go_enter Try.func67, Try.ntmps67
        go_wp2_with fail
        refine hc.out.mono ?_
        rintro e w' ⟨rfl, rfl⟩
        rw [HVV.out]
        go_wp2
        go_ret
        exact ⟨rfl, HD.out, Keep.refl _ _⟩
    · have HR2 : Hid (progS d s q v = (d, 60)) := by show _ = _; rw [HR.out, if_neg (by simp [hon]), if_pos hi]
      rw [hon] at c4
      rw [HR2.out]
      have HVV := Lib.hid hvv
      have HV := Lib.hid hv
      clear HR hon hi hvv hd ho hv
      go_enter Try.func67, Try.ntmps67
      go_wp2_with fail
      refine hc.out.mono ?_
      rintro e w' ⟨rfl, rfl⟩
      rw [HVV.out]
      go_wp2
      go_ret
      exact ⟨rfl, HD.out, Keep.refl _ _⟩
end
end Go.Proofs.Yteanpgkonhdbpaa
