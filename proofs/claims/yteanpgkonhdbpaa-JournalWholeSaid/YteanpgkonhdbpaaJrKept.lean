/- The law's looks at rows of entries; walked. Condition: rows of at most 100,000 entries. -/
import Derived.Test.YteanpgkonhdbpaaJrRead2
import Derived.Test.YteanpgkonhdbpaaFlow
namespace Go.Proofs.Yteanpgkonhdbpaa
open Go.RowKit

theorem entRow_get : ∀ (L : List (Nat × Nat)) (k : Nat) (hk : k < L.length) (j : Nat) (u : Value), (entC L[k])[j]? = some u → (L.flatMap entC)[k * 2 + j]? = some u
  | x :: l, 0, _, j, u, h => by
    rw [List.flatMap_cons, List.getElem?_append_left (by have := (List.getElem?_eq_some_iff.1 h).1; simp at this ⊢; omega)]
    simpa using h
  | x :: l, k + 1, hk, j, u, h => by
    rw [List.flatMap_cons, List.getElem?_append_right (by simp [entC]; omega)]
    have := entRow_get l k (by simpa using hk) j u (by simpa using h)
    rw [← this]
    congr 1
    simp [entC]
    omega
theorem entRow_at {w : World} {A : Option Addr} {L : List (Nat × Nat)} (h : Reads w 2 A L.length (L.flatMap entC)) {k : Nat} (hk : k < L.length) : ∃ b o, A = some ⟨b, o, none⟩ ∧ ∀ W, Keep [] w W → W.cell? ⟨b, o + k * 2, none⟩ = some (.int .u32 (L[k].1 : Int)) ∧ W.cell? ⟨b, o + k * 2 + 1, none⟩ = some (.int .u32 (L[k].2 : Int)) := by
  obtain ⟨b, o, hA, hb, hc⟩ := h.addr (by omega)
  refine ⟨b, o, hA, fun W hk' => ⟨?_, ?_⟩⟩
  · rw [hk'.cell hb (by simp)]
    exact hc (k * 2) _ (entRow_get L k hk 0 _ rfl)
  · rw [hk'.cell hb (by simp), Nat.add_assoc]
    exact hc (k * 2 + 1) _ (entRow_get L k hk 1 _ rfl)

set_option maxRecDepth 100000 in
set_option maxHeartbeats 4000000 in
theorem kept_yes (A1 A2 A3 : Option Addr) (c1 c2 c3 : Nat) (L P : List (Nat × Nat)) (w : World) (h1 : Reads w 2 A1 L.length (L.flatMap entC)) (h2 : Reads w 2 A2 L.length (L.flatMap entC)) (h3 : Reads w 2 A3 P.length (P.flatMap entC)) (hin : ∀ x ∈ L, x ∈ P) (hL : L.length ≤ 100000) (hP : P.length ≤ 100000) :
    Calls Try.prog 22 #[.slice A1 L.length c1, .slice A2 L.length c2, .slice A3 P.length c3] w fun e w' => e = .returned (.bool true) ∧ Keep [] w w' := by
  have H1 : Hid (∀ k, (hk : k < L.length) → ∃ b o, A1 = some ⟨b, o, none⟩ ∧ ∀ W, Keep [] w W → W.cell? ⟨b, o + k * 2, none⟩ = some (.int .u32 (L[k].1 : Int)) ∧ W.cell? ⟨b, o + k * 2 + 1, none⟩ = some (.int .u32 (L[k].2 : Int))) := fun k hk => entRow_at h1 hk
  have H2 : Hid (∀ k, (hk : k < L.length) → ∃ b o, A2 = some ⟨b, o, none⟩ ∧ ∀ W, Keep [] w W → W.cell? ⟨b, o + k * 2, none⟩ = some (.int .u32 (L[k].1 : Int)) ∧ W.cell? ⟨b, o + k * 2 + 1, none⟩ = some (.int .u32 (L[k].2 : Int))) := fun k hk => entRow_at h2 hk
  have H3 : Hid (∀ k, (hk : k < P.length) → ∃ b o, A3 = some ⟨b, o, none⟩ ∧ ∀ W, Keep [] w W → W.cell? ⟨b, o + k * 2, none⟩ = some (.int .u32 (P[k].1 : Int)) ∧ W.cell? ⟨b, o + k * 2 + 1, none⟩ = some (.int .u32 (P[k].2 : Int))) := fun k hk => entRow_at h3 hk
  have HIN := Lib.hid hin
  clear h1 h2 h3 hin
  go_enter Try.func22, Try.ntmps22
  go_wp2
  go_loopw [7] (fun vi wr => ∃ k : Nat, k ≤ L.length ∧ vi = .int .i64 (k : Int) ∧ Keep [] w wr) (fun vi _ => L.length - (intOf vi).toNat)
  case atStart => exact ⟨0, Nat.zero_le _, rfl, Keep.refl _ _⟩
  case round =>
    obtain ⟨k, hk, rfl, hkp⟩ := hrel
    by_cases hlt : k < L.length
    · obtain ⟨ba, oa, rfl, ha⟩ := H1.out k hlt
      obtain ⟨bb, ob, rfl, hb⟩ := H2.out k hlt
      have p0 : (0 : Int) ≤ (k : Int) := by omega
      have p1 : (k : Int) < (L.length : Int) := by omega
      have HMEM : Hid (L[k] ∈ P) := HIN.out _ (List.getElem_mem hlt)
      have HKP := Lib.hid hkp
      clear hkp
      generalize L[k] = x at *
      obtain ⟨xa, xb⟩ := x
      dsimp only at ha hb
      go_wp2_with fail
      go_loopw [8, 9] (fun v8 v9 wm => ∃ (m : Nat) (t : Bool), m ≤ P.length ∧ v9 = .int .i64 (m : Int) ∧ v8 = .bool t ∧ (t = true ↔ (xa, xb) ∈ P.take m) ∧ Keep [] w wm) (fun _ v9 _ => P.length - (intOf v9).toNat)
      case atStart => exact ⟨0, false, Nat.zero_le _, rfl, rfl, by simp, HKP.out⟩
      case round =>
        obtain ⟨m, t, hm, rfl, rfl, ht, hkm⟩ := hrel
        by_cases hlm : m < P.length
        · obtain ⟨bc, oc, rfl, hc⟩ := H3.out m hlm
          have p2 : (0 : Int) ≤ (m : Int) := by omega
          have p3 : (m : Int) < (P.length : Int) := by omega
          have HT : Hid ((t || decide (P[m] = (xa, xb))) = true ↔ (xa, xb) ∈ P.take (m + 1)) := by
            show _ ↔ _
            rw [List.take_succ_eq_append_getElem hlm, List.mem_append, List.mem_singleton, Bool.or_eq_true, ht, decide_eq_true_eq]
            exact or_congr Iff.rfl eq_comm
          clear ht
          generalize P[m] = y at *
          obtain ⟨ya, yb⟩ := y
          dsimp only at hc
          have hF : ∀ W, Keep [] w W → W.cell? ⟨ba, oa + k * 2, none⟩ = some (.int .u32 (xa : Int)) ∧ W.cell? ⟨ba, oa + k * 2 + 1, none⟩ = some (.int .u32 (xb : Int)) ∧ W.cell? ⟨bc, oc + m * 2, none⟩ = some (.int .u32 (ya : Int)) ∧ W.cell? ⟨bc, oc + m * 2 + 1, none⟩ = some (.int .u32 (yb : Int)) := fun W hW => ⟨(ha W hW).1, (ha W hW).2, (hc W hW).1, (hc W hW).2⟩
          cases t
          · go_upto_region 10 with fail
            refine wp_region_flow (Keep [] w) rfl (by kernel_rfl) hkm.drew ?_
            iterate 10 (refine fl_val (v := ?_) (by rfl) ?_ ?_; rotate_left; (intro w' hS; obtain ⟨f0,f1,f2,f3⟩ := hF w' hS; go_simp; with_reducible rfl); simp only [Act.put, List.setIfInBounds_toArray, List.set_cons_zero, List.set_cons_succ])
            refine fl_val (v := .bool (decide ((ya, yb) = (xa, xb)))) (by rfl) ?_ ?_
            · intro w' hS
              by_cases e1 : (ya : Int) = (xa : Int)
              · by_cases e2 : (yb : Int) = (xb : Int)
                · go_simp
                  exact ⟨by omega, by omega⟩
                · go_simp
                  intro h1 h2
                  omega
              · go_simp
                intro h1 h2
                omega
            simp only [Act.put, List.setIfInBounds_toArray, List.set_cons_zero, List.set_cons_succ]
            iterate 2 (refine fl_val (v := ?_) (by rfl) ?_ ?_; rotate_left; (intro w' hS; obtain ⟨f0,f1,f2,f3⟩ := hF w' hS; go_simp; with_reducible rfl); simp only [Act.put, List.setIfInBounds_toArray, List.set_cons_zero, List.set_cons_succ])
            refine fl_nil ?_
            intro w2 hS2
            go_wp2
            go_roundw
            case rel => exact ⟨m + 1, decide ((ya, yb) = (xa, xb)), by omega, by go_num, by simp [Bool.decide_and], by simpa using HT.out, hS2⟩
            case measure => simp [intOf]; omega
          · go_upto_region 10 with fail
            refine wp_region_flow (Keep [] w) rfl (by kernel_rfl) hkm.drew ?_
            iterate 2 (refine fl_val (v := ?_) (by rfl) ?_ ?_; rotate_left; (intro w' hS; obtain ⟨f0,f1,f2,f3⟩ := hF w' hS; go_simp; with_reducible rfl); simp only [Act.put, List.setIfInBounds_toArray, List.set_cons_zero, List.set_cons_succ])
            iterate 9 (refine fl_off (by rfl) ?_; simp only [Act.put, List.setIfInBounds_toArray, List.set_cons_zero, List.set_cons_succ])
            iterate 2 (refine fl_val (v := ?_) (by rfl) ?_ ?_; rotate_left; (intro w' hS; obtain ⟨f0,f1,f2,f3⟩ := hF w' hS; go_simp; with_reducible rfl); simp only [Act.put, List.setIfInBounds_toArray, List.set_cons_zero, List.set_cons_succ])
            refine fl_nil ?_
            intro w2 hS2
            go_wp2
            go_roundw
            case rel => exact ⟨m + 1, true, by omega, by go_num, rfl, by simpa using HT.out, hS2⟩
            case measure => simp [intOf]; omega
        · have hml : m = P.length := by omega
          subst hml
          have htt : t = true := by rw [ht, List.take_length]; exact HMEM.out
          subst htt
          have hF : ∀ W, Keep [] w W → W.cell? ⟨ba, oa + k * 2, none⟩ = some (.int .u32 (xa : Int)) ∧ W.cell? ⟨ba, oa + k * 2 + 1, none⟩ = some (.int .u32 (xb : Int)) ∧ W.cell? ⟨bb, ob + k * 2, none⟩ = some (.int .u32 (xa : Int)) ∧ W.cell? ⟨bb, ob + k * 2 + 1, none⟩ = some (.int .u32 (xb : Int)) := fun W hW => ⟨(ha W hW).1, (ha W hW).2, (hb W hW).1, (hb W hW).2⟩
          go_upto_region 11 with fail
          refine wp_region_flow (Keep [] w) rfl (by kernel_rfl) hkm.drew ?_
          iterate 13 (refine fl_val (v := ?_) (by rfl) ?_ ?_; rotate_left; (intro w' hS; obtain ⟨f0,f1,f2,f3⟩ := hF w' hS; go_simp; with_reducible rfl); simp only [Act.put, List.setIfInBounds_toArray, List.set_cons_zero, List.set_cons_succ])
          refine fl_nil ?_
          intro w2 hS2
          go_wp2
          go_roundw
          case rel => exact ⟨k + 1, by omega, by go_num, hS2⟩
          case measure => simp [intOf]; omega
    · have hkl : k = L.length := by omega
      subst hkl
      go_wp2
      go_ret
      exact ⟨rfl, hkp⟩
end Go.Proofs.Yteanpgkonhdbpaa
