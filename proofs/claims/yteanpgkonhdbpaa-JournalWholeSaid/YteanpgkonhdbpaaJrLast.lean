/- The law's look at the last rows; walked. Condition: rows of at most 100,000 entries. -/
import Derived.Test.YteanpgkonhdbpaaJrKept
namespace Go.Proofs.Yteanpgkonhdbpaa
open Go.RowKit

set_option maxRecDepth 100000 in
set_option maxHeartbeats 8000000 in
theorem last_yes (A1 A2 : Option Addr) (c1 c2 : Nat) (G S : List (Nat × Nat)) (m : Int) (w : World) (h1 : Reads w 2 A1 G.length (G.flatMap entC)) (h2 : Reads w 2 A2 S.length (S.flatMap entC)) (hin : ∀ i, (hi : i < S.length) → (S.length : Int) - m ≤ (i : Int) → S[i] ∈ G) (hG : G.length ≤ 100000) (hS : S.length ≤ 100000) (hm1 : -100000 ≤ m) (hm2 : m ≤ 100000) :
    Calls Try.prog 24 #[.slice A1 G.length c1, .slice A2 S.length c2, .int .i64 m] w fun e w' => e = .returned (.bool true) ∧ Keep [] w w' := by
  have H1 : Hid (∀ k, (hk : k < G.length) → ∃ b o, A1 = some ⟨b, o, none⟩ ∧ ∀ W, Keep [] w W → W.cell? ⟨b, o + k * 2, none⟩ = some (.int .u32 (G[k].1 : Int)) ∧ W.cell? ⟨b, o + k * 2 + 1, none⟩ = some (.int .u32 (G[k].2 : Int))) := fun k hk => entRow_at h1 hk
  have H2 : Hid (∀ k, (hk : k < S.length) → ∃ b o, A2 = some ⟨b, o, none⟩ ∧ ∀ W, Keep [] w W → W.cell? ⟨b, o + k * 2, none⟩ = some (.int .u32 (S[k].1 : Int)) ∧ W.cell? ⟨b, o + k * 2 + 1, none⟩ = some (.int .u32 (S[k].2 : Int))) := fun k hk => entRow_at h2 hk
  have HIN := Lib.hid hin
  clear h1 h2 hin
  go_enter Try.func24, Try.ntmps24
  by_cases hneg : m < 0
  · have q0 : decide (m < 0) = true := decide_eq_true hneg
    have p0 := eq_true hneg
    have q1 : IntKind.i64.wrap (S.length : Int) = (S.length : Int) := IntWalk.i64_in _ (by omega)
    obtain ⟨fr, hfr⟩ : ∃ fr : Nat, fr = S.length := ⟨_, rfl⟩
    have q2 : decide ((S.length : Int) < 0) = false := decide_eq_false (by omega)
    have HFR : Hid (∀ i, (hi : i < S.length) → fr ≤ i → S[i] ∈ G) := fun i hi h => absurd h (by omega)
    have hst : fr ≤ S.length := by omega
    have HSTA : Hid ((S.length : Int) = (fr : Int)) := by show _ = _; omega
    clear hneg hfr
    go_wp2_with fail
    go_loopw [8] (fun vi wr => ∃ k : Nat, fr ≤ k ∧ k ≤ S.length ∧ vi = .int .i64 (k : Int) ∧ Keep [] w wr) (fun vi _ => S.length - (intOf vi).toNat)
    case atStart => exact ⟨fr, Nat.le_refl _, hst, by simp [HSTA.out], Keep.refl _ _⟩
    case round =>
      obtain ⟨k, hfk, hk, rfl, hkp⟩ := hrel
      by_cases hlt : k < S.length
      · obtain ⟨bb, ob, rfl, hb⟩ := H2.out k hlt
        have p3 : (0 : Int) ≤ (k : Int) := by omega
        have p4 : (k : Int) < (S.length : Int) := by omega
        have HMEM : Hid (S[k] ∈ G) := HFR.out k hlt hfk
        have HKP := Lib.hid hkp
        clear hkp
        generalize S[k] = x at *
        obtain ⟨xa, xb⟩ := x
        dsimp only at hb
        go_wp2_with fail
        go_loopw [9, 10] (fun v8 v9 wm => ∃ (m : Nat) (t : Bool), m ≤ G.length ∧ v9 = .int .i64 (m : Int) ∧ v8 = .bool t ∧ (t = true ↔ (xa, xb) ∈ G.take m) ∧ Keep [] w wm) (fun _ v9 _ => G.length - (intOf v9).toNat)
        case atStart => exact ⟨0, false, Nat.zero_le _, rfl, rfl, by simp, HKP.out⟩
        case round =>
          obtain ⟨m, t, hm, rfl, rfl, ht, hkm⟩ := hrel
          by_cases hlm : m < G.length
          · obtain ⟨bc, oc, rfl, hc⟩ := H1.out m hlm
            have p5 : (0 : Int) ≤ (m : Int) := by omega
            have p6 : (m : Int) < (G.length : Int) := by omega
            have HT : Hid ((t || decide (G[m] = (xa, xb))) = true ↔ (xa, xb) ∈ G.take (m + 1)) := by
              show _ ↔ _
              rw [List.take_succ_eq_append_getElem hlm, List.mem_append, List.mem_singleton, Bool.or_eq_true, ht, decide_eq_true_eq]
              exact or_congr Iff.rfl eq_comm
            clear ht
            generalize G[m] = y at *
            obtain ⟨ya, yb⟩ := y
            dsimp only at hc
            have hF : ∀ W, Keep [] w W → W.cell? ⟨bb, ob + k * 2, none⟩ = some (.int .u32 (xa : Int)) ∧ W.cell? ⟨bb, ob + k * 2 + 1, none⟩ = some (.int .u32 (xb : Int)) ∧ W.cell? ⟨bc, oc + m * 2, none⟩ = some (.int .u32 (ya : Int)) ∧ W.cell? ⟨bc, oc + m * 2 + 1, none⟩ = some (.int .u32 (yb : Int)) := fun W hW => ⟨(hb W hW).1, (hb W hW).2, (hc W hW).1, (hc W hW).2⟩
            cases t
            · go_upto_region 13 with fail
              refine wp_region_flow (Keep [] w) rfl (by kernel_rfl) hkm.drew ?_
              iterate 10 (refine fl_val (v := ?_) (by rfl) ?_ ?_; rotate_left; (intro w' hS; obtain ⟨f0,f1,f2,f3⟩ := hF w' hS; go_simp; with_reducible rfl); simp only [Act.put, List.setIfInBounds_toArray, List.set_cons_zero, List.set_cons_succ])
              refine fl_val (v := .bool (decide ((ya, yb) = (xa, xb)))) (by rfl) ?_ ?_
              · intro w' hS
                by_cases e1 : (ya : Int) = (xa : Int)
                · by_cases e2 : (yb : Int) = (xb : Int)
                  · go_simp
                    exact ⟨by omega, by omega⟩
                  · go_simp
                    intro h1 h2
                    omega
                · go_simp
                  intro h1 h2
                  omega
              simp only [Act.put, List.setIfInBounds_toArray, List.set_cons_zero, List.set_cons_succ]
              iterate 2 (refine fl_val (v := ?_) (by rfl) ?_ ?_; rotate_left; (intro w' hS; obtain ⟨f0,f1,f2,f3⟩ := hF w' hS; go_simp; with_reducible rfl); simp only [Act.put, List.setIfInBounds_toArray, List.set_cons_zero, List.set_cons_succ])
              refine fl_nil ?_
              intro w2 hS2
              go_wp2
              go_roundw
              case rel => exact ⟨m + 1, decide ((ya, yb) = (xa, xb)), by omega, by go_num, by simp [Bool.decide_and], by simpa using HT.out, hS2⟩
              case measure => simp [intOf]; omega
            · go_upto_region 13 with fail
              refine wp_region_flow (Keep [] w) rfl (by kernel_rfl) hkm.drew ?_
              iterate 2 (refine fl_val (v := ?_) (by rfl) ?_ ?_; rotate_left; (intro w' hS; obtain ⟨f0,f1,f2,f3⟩ := hF w' hS; go_simp; with_reducible rfl); simp only [Act.put, List.setIfInBounds_toArray, List.set_cons_zero, List.set_cons_succ])
              iterate 9 (refine fl_off (by rfl) ?_; simp only [Act.put, List.setIfInBounds_toArray, List.set_cons_zero, List.set_cons_succ])
              iterate 2 (refine fl_val (v := ?_) (by rfl) ?_ ?_; rotate_left; (intro w' hS; obtain ⟨f0,f1,f2,f3⟩ := hF w' hS; go_simp; with_reducible rfl); simp only [Act.put, List.setIfInBounds_toArray, List.set_cons_zero, List.set_cons_succ])
              refine fl_nil ?_
              intro w2 hS2
              go_wp2
              go_roundw
              case rel => exact ⟨m + 1, true, by omega, by go_num, rfl, by simpa using HT.out, hS2⟩
              case measure => simp [intOf]; omega
          · have hml : m = G.length := by omega
            subst hml
            have htt : t = true := by rw [ht, List.take_length]; exact HMEM.out
            subst htt
            go_wp2
            go_roundw
            case rel => exact ⟨k + 1, by omega, by omega, by go_num, hkm⟩
            case measure => simp [intOf]; omega
      · have hkl : k = S.length := by omega
        subst hkl
        go_wp2
        go_ret
        exact ⟨rfl, hkp⟩
  have q0 : decide (m < 0) = false := decide_eq_false hneg
  have p0 := eq_false hneg
  obtain ⟨m', rfl⟩ : ∃ k : Nat, m = (k : Int) := ⟨m.toNat, by omega⟩
  have q1 : IntKind.i64.wrap ((S.length : Int) - (m' : Int)) = (S.length : Int) - (m' : Int) := IntWalk.i64_in _ (by omega)
  by_cases hle : (S.length : Int) - (m' : Int) < 0
  · have q2 : decide ((S.length : Int) - (m' : Int) < 0) = true := decide_eq_true hle
    have p2 := eq_true hle
    obtain ⟨fr, hfr⟩ : ∃ fr : Nat, fr = 0 := ⟨_, rfl⟩
    have HFR : Hid (∀ i, (hi : i < S.length) → fr ≤ i → S[i] ∈ G) := fun i hi h => HIN.out i hi (by omega)
    have hst : fr ≤ S.length := by omega
    have HSTA : Hid ((0 : Int) = (fr : Int)) := by show _ = _; omega
    clear hneg hle hfr
    go_wp2_with fail
    go_loopw [8] (fun vi wr => ∃ k : Nat, fr ≤ k ∧ k ≤ S.length ∧ vi = .int .i64 (k : Int) ∧ Keep [] w wr) (fun vi _ => S.length - (intOf vi).toNat)
    case atStart => exact ⟨fr, Nat.le_refl _, hst, by simp [HSTA.out], Keep.refl _ _⟩
    case round =>
      obtain ⟨k, hfk, hk, rfl, hkp⟩ := hrel
      by_cases hlt : k < S.length
      · obtain ⟨bb, ob, rfl, hb⟩ := H2.out k hlt
        have p3 : (0 : Int) ≤ (k : Int) := by omega
        have p4 : (k : Int) < (S.length : Int) := by omega
        have HMEM : Hid (S[k] ∈ G) := HFR.out k hlt hfk
        have HKP := Lib.hid hkp
        clear hkp
        generalize S[k] = x at *
        obtain ⟨xa, xb⟩ := x
        dsimp only at hb
        go_wp2_with fail
        go_loopw [9, 10] (fun v8 v9 wm => ∃ (m : Nat) (t : Bool), m ≤ G.length ∧ v9 = .int .i64 (m : Int) ∧ v8 = .bool t ∧ (t = true ↔ (xa, xb) ∈ G.take m) ∧ Keep [] w wm) (fun _ v9 _ => G.length - (intOf v9).toNat)
        case atStart => exact ⟨0, false, Nat.zero_le _, rfl, rfl, by simp, HKP.out⟩
        case round =>
          obtain ⟨m, t, hm, rfl, rfl, ht, hkm⟩ := hrel
          by_cases hlm : m < G.length
          · obtain ⟨bc, oc, rfl, hc⟩ := H1.out m hlm
            have p5 : (0 : Int) ≤ (m : Int) := by omega
            have p6 : (m : Int) < (G.length : Int) := by omega
            have HT : Hid ((t || decide (G[m] = (xa, xb))) = true ↔ (xa, xb) ∈ G.take (m + 1)) := by
              show _ ↔ _
              rw [List.take_succ_eq_append_getElem hlm, List.mem_append, List.mem_singleton, Bool.or_eq_true, ht, decide_eq_true_eq]
              exact or_congr Iff.rfl eq_comm
            clear ht
            generalize G[m] = y at *
            obtain ⟨ya, yb⟩ := y
            dsimp only at hc
            have hF : ∀ W, Keep [] w W → W.cell? ⟨bb, ob + k * 2, none⟩ = some (.int .u32 (xa : Int)) ∧ W.cell? ⟨bb, ob + k * 2 + 1, none⟩ = some (.int .u32 (xb : Int)) ∧ W.cell? ⟨bc, oc + m * 2, none⟩ = some (.int .u32 (ya : Int)) ∧ W.cell? ⟨bc, oc + m * 2 + 1, none⟩ = some (.int .u32 (yb : Int)) := fun W hW => ⟨(hb W hW).1, (hb W hW).2, (hc W hW).1, (hc W hW).2⟩
            cases t
            · go_upto_region 13 with fail
              refine wp_region_flow (Keep [] w) rfl (by kernel_rfl) hkm.drew ?_
              iterate 10 (refine fl_val (v := ?_) (by rfl) ?_ ?_; rotate_left; (intro w' hS; obtain ⟨f0,f1,f2,f3⟩ := hF w' hS; go_simp; with_reducible rfl); simp only [Act.put, List.setIfInBounds_toArray, List.set_cons_zero, List.set_cons_succ])
              refine fl_val (v := .bool (decide ((ya, yb) = (xa, xb)))) (by rfl) ?_ ?_
              · intro w' hS
                by_cases e1 : (ya : Int) = (xa : Int)
                · by_cases e2 : (yb : Int) = (xb : Int)
                  · go_simp
                    exact ⟨by omega, by omega⟩
                  · go_simp
                    intro h1 h2
                    omega
                · go_simp
                  intro h1 h2
                  omega
              simp only [Act.put, List.setIfInBounds_toArray, List.set_cons_zero, List.set_cons_succ]
              iterate 2 (refine fl_val (v := ?_) (by rfl) ?_ ?_; rotate_left; (intro w' hS; obtain ⟨f0,f1,f2,f3⟩ := hF w' hS; go_simp; with_reducible rfl); simp only [Act.put, List.setIfInBounds_toArray, List.set_cons_zero, List.set_cons_succ])
              refine fl_nil ?_
              intro w2 hS2
              go_wp2
              go_roundw
              case rel => exact ⟨m + 1, decide ((ya, yb) = (xa, xb)), by omega, by go_num, by simp [Bool.decide_and], by simpa using HT.out, hS2⟩
              case measure => simp [intOf]; omega
            · go_upto_region 13 with fail
              refine wp_region_flow (Keep [] w) rfl (by kernel_rfl) hkm.drew ?_
              iterate 2 (refine fl_val (v := ?_) (by rfl) ?_ ?_; rotate_left; (intro w' hS; obtain ⟨f0,f1,f2,f3⟩ := hF w' hS; go_simp; with_reducible rfl); simp only [Act.put, List.setIfInBounds_toArray, List.set_cons_zero, List.set_cons_succ])
              iterate 9 (refine fl_off (by rfl) ?_; simp only [Act.put, List.setIfInBounds_toArray, List.set_cons_zero, List.set_cons_succ])
              iterate 2 (refine fl_val (v := ?_) (by rfl) ?_ ?_; rotate_left; (intro w' hS; obtain ⟨f0,f1,f2,f3⟩ := hF w' hS; go_simp; with_reducible rfl); simp only [Act.put, List.setIfInBounds_toArray, List.set_cons_zero, List.set_cons_succ])
              refine fl_nil ?_
              intro w2 hS2
              go_wp2
              go_roundw
              case rel => exact ⟨m + 1, true, by omega, by go_num, rfl, by simpa using HT.out, hS2⟩
              case measure => simp [intOf]; omega
          · have hml : m = G.length := by omega
            subst hml
            have htt : t = true := by rw [ht, List.take_length]; exact HMEM.out
            subst htt
            go_wp2
            go_roundw
            case rel => exact ⟨k + 1, by omega, by omega, by go_num, hkm⟩
            case measure => simp [intOf]; omega
      · have hkl : k = S.length := by omega
        subst hkl
        go_wp2
        go_ret
        exact ⟨rfl, hkp⟩
  · have q2 : decide ((S.length : Int) - (m' : Int) < 0) = false := decide_eq_false hle
    have p2 := eq_false hle
    obtain ⟨fr, hfr⟩ : ∃ fr : Nat, fr = S.length - m' := ⟨_, rfl⟩
    have HFR : Hid (∀ i, (hi : i < S.length) → fr ≤ i → S[i] ∈ G) := fun i hi h => HIN.out i hi (by omega)
    have hst : fr ≤ S.length := by omega
    have HSTA : Hid ((S.length : Int) - (m' : Int) = (fr : Int)) := by show _ = _; omega
    clear hneg hle hfr
    go_wp2_with fail
    go_loopw [8] (fun vi wr => ∃ k : Nat, fr ≤ k ∧ k ≤ S.length ∧ vi = .int .i64 (k : Int) ∧ Keep [] w wr) (fun vi _ => S.length - (intOf vi).toNat)
    case atStart => exact ⟨fr, Nat.le_refl _, hst, by simp [HSTA.out], Keep.refl _ _⟩
    case round =>
      obtain ⟨k, hfk, hk, rfl, hkp⟩ := hrel
      by_cases hlt : k < S.length
      · obtain ⟨bb, ob, rfl, hb⟩ := H2.out k hlt
        have p3 : (0 : Int) ≤ (k : Int) := by omega
        have p4 : (k : Int) < (S.length : Int) := by omega
        have HMEM : Hid (S[k] ∈ G) := HFR.out k hlt hfk
        have HKP := Lib.hid hkp
        clear hkp
        generalize S[k] = x at *
        obtain ⟨xa, xb⟩ := x
        dsimp only at hb
        go_wp2_with fail
        go_loopw [9, 10] (fun v8 v9 wm => ∃ (m : Nat) (t : Bool), m ≤ G.length ∧ v9 = .int .i64 (m : Int) ∧ v8 = .bool t ∧ (t = true ↔ (xa, xb) ∈ G.take m) ∧ Keep [] w wm) (fun _ v9 _ => G.length - (intOf v9).toNat)
        case atStart => exact ⟨0, false, Nat.zero_le _, rfl, rfl, by simp, HKP.out⟩
        case round =>
          obtain ⟨m, t, hm, rfl, rfl, ht, hkm⟩ := hrel
          by_cases hlm : m < G.length
          · obtain ⟨bc, oc, rfl, hc⟩ := H1.out m hlm
            have p5 : (0 : Int) ≤ (m : Int) := by omega
            have p6 : (m : Int) < (G.length : Int) := by omega
            have HT : Hid ((t || decide (G[m] = (xa, xb))) = true ↔ (xa, xb) ∈ G.take (m + 1)) := by
              show _ ↔ _
              rw [List.take_succ_eq_append_getElem hlm, List.mem_append, List.mem_singleton, Bool.or_eq_true, ht, decide_eq_true_eq]
              exact or_congr Iff.rfl eq_comm
            clear ht
            generalize G[m] = y at *
            obtain ⟨ya, yb⟩ := y
            dsimp only at hc
            have hF : ∀ W, Keep [] w W → W.cell? ⟨bb, ob + k * 2, none⟩ = some (.int .u32 (xa : Int)) ∧ W.cell? ⟨bb, ob + k * 2 + 1, none⟩ = some (.int .u32 (xb : Int)) ∧ W.cell? ⟨bc, oc + m * 2, none⟩ = some (.int .u32 (ya : Int)) ∧ W.cell? ⟨bc, oc + m * 2 + 1, none⟩ = some (.int .u32 (yb : Int)) := fun W hW => ⟨(hb W hW).1, (hb W hW).2, (hc W hW).1, (hc W hW).2⟩
            cases t
            · go_upto_region 13 with fail
              refine wp_region_flow (Keep [] w) rfl (by kernel_rfl) hkm.drew ?_
              iterate 10 (refine fl_val (v := ?_) (by rfl) ?_ ?_; rotate_left; (intro w' hS; obtain ⟨f0,f1,f2,f3⟩ := hF w' hS; go_simp; with_reducible rfl); simp only [Act.put, List.setIfInBounds_toArray, List.set_cons_zero, List.set_cons_succ])
              refine fl_val (v := .bool (decide ((ya, yb) = (xa, xb)))) (by rfl) ?_ ?_
              · intro w' hS
                by_cases e1 : (ya : Int) = (xa : Int)
                · by_cases e2 : (yb : Int) = (xb : Int)
                  · go_simp
                    exact ⟨by omega, by omega⟩
                  · go_simp
                    intro h1 h2
                    omega
                · go_simp
                  intro h1 h2
                  omega
              simp only [Act.put, List.setIfInBounds_toArray, List.set_cons_zero, List.set_cons_succ]
              iterate 2 (refine fl_val (v := ?_) (by rfl) ?_ ?_; rotate_left; (intro w' hS; obtain ⟨f0,f1,f2,f3⟩ := hF w' hS; go_simp; with_reducible rfl); simp only [Act.put, List.setIfInBounds_toArray, List.set_cons_zero, List.set_cons_succ])
              refine fl_nil ?_
              intro w2 hS2
              go_wp2
              go_roundw
              case rel => exact ⟨m + 1, decide ((ya, yb) = (xa, xb)), by omega, by go_num, by simp [Bool.decide_and], by simpa using HT.out, hS2⟩
              case measure => simp [intOf]; omega
            · go_upto_region 13 with fail
              refine wp_region_flow (Keep [] w) rfl (by kernel_rfl) hkm.drew ?_
              iterate 2 (refine fl_val (v := ?_) (by rfl) ?_ ?_; rotate_left; (intro w' hS; obtain ⟨f0,f1,f2,f3⟩ := hF w' hS; go_simp; with_reducible rfl); simp only [Act.put, List.setIfInBounds_toArray, List.set_cons_zero, List.set_cons_succ])
              iterate 9 (refine fl_off (by rfl) ?_; simp only [Act.put, List.setIfInBounds_toArray, List.set_cons_zero, List.set_cons_succ])
              iterate 2 (refine fl_val (v := ?_) (by rfl) ?_ ?_; rotate_left; (intro w' hS; obtain ⟨f0,f1,f2,f3⟩ := hF w' hS; go_simp; with_reducible rfl); simp only [Act.put, List.setIfInBounds_toArray, List.set_cons_zero, List.set_cons_succ])
              refine fl_nil ?_
              intro w2 hS2
              go_wp2
              go_roundw
              case rel => exact ⟨m + 1, true, by omega, by go_num, rfl, by simpa using HT.out, hS2⟩
              case measure => simp [intOf]; omega
          · have hml : m = G.length := by omega
            subst hml
            have htt : t = true := by rw [ht, List.take_length]; exact HMEM.out
            subst htt
            go_wp2
            go_roundw
            case rel => exact ⟨k + 1, by omega, by omega, by go_num, hkm⟩
            case measure => simp [intOf]; omega
      · have hkl : k = S.length := by omega
        subst hkl
        go_wp2
        go_ret
        exact ⟨rfl, hkp⟩
end Go.Proofs.Yteanpgkonhdbpaa
