/- The chapter's image: the way that is found (layer 43's alive). Condition: the table of math/bits lies where the program's text lays it. -/
import Derived.Test.YteocldlglklnjaaDoorRouteN
import Derived.Test.YteocldlglklnjaaDoorCertEx
namespace Go.Proofs.YteocldlglklnjaaDoor
open Go.RowKit
attribute [local go_sem] Oper.semAt_some

theorem leads_mono {es : List Eg} (hp : ∀ e ∈ es, 0 ≤ e.n ∧ 0 ≤ e.l) : ∀ (L : List Nat) (u : Nat) (z : Int) (t : Nat) (z2 : Int), leads es u z L = some (t, z2) → z ≤ z2
  | [], u, z, t, z2, h => by
    rw [leads] at h
    injection h with h
    injection h with _ h
    omega
  | i :: L, u, z, t, z2, h => by
    rw [leads] at h
    cases he : es[i]? with
    | none => rw [he] at h; cases h
    | some e =>
      rw [he] at h
      simp only at h
      have hpe := hp e (List.mem_of_getElem? he)
      split at h
      · have := leads_mono hp L _ _ t z2 h
        split at this <;> omega
      · cases h
def es43 : List Eg := [⟨0, 1, 16, 16⟩, ⟨1, 2, 40, 40⟩, ⟨2, 0, 30, 15⟩, ⟨0, 2, 30, 15⟩]
theorem egs43 : egs (exT 2) (fullCrt (exT 2)) = es43 := by kernel_rfl
theorem es43_at {i : Nat} {e : Eg} (h : es43[i]? = some e) : (i = 0 ∧ e = ⟨0, 1, 16, 16⟩) ∨ (i = 1 ∧ e = ⟨1, 2, 40, 40⟩) ∨ (i = 2 ∧ e = ⟨2, 0, 30, 15⟩) ∨ (i = 3 ∧ e = ⟨0, 2, 30, 15⟩) := by
  unfold es43 at h
  rcases i with _ | _ | _ | _ | i
  · exact .inl ⟨rfl, by simpa using h.symm⟩
  · exact .inr (.inl ⟨rfl, by simpa using h.symm⟩)
  · exact .inr (.inr (.inl ⟨rfl, by simpa using h.symm⟩))
  · exact .inr (.inr (.inr ⟨rfl, by simpa using h.symm⟩))
  · simp at h
theorem es43_pos : ∀ e ∈ es43, 0 ≤ e.n ∧ 0 ≤ e.l := by
  intro e he
  simp [es43] at he
  rcases he with rfl | rfl | rfl | rfl <;> simp
theorem way43 {L : List Nat} {z : Int} (h : leads es43 1 0 L = some (0, z)) (hz : z ≤ 55) : L = [1, 2] := by
  cases L with
  | nil => rw [leads] at h; simp at h
  | cons i L =>
    rw [leads] at h
    cases he : es43[i]? with
    | none => rw [he] at h; cases h
    | some e =>
      rw [he] at h
      simp only at h
      split at h
      · rename_i hu
        rcases es43_at he with ⟨rfl, rfl⟩ | ⟨rfl, rfl⟩ | ⟨rfl, rfl⟩ | ⟨rfl, rfl⟩
        · cases hu
        · cases L with
          | nil => rw [leads] at h; simp at h
          | cons j L =>
            rw [leads] at h
            cases hf : es43[j]? with
            | none => rw [hf] at h; cases h
            | some f =>
              rw [hf] at h
              simp only at h
              split at h
              · rename_i hv
                rcases es43_at hf with ⟨rfl, rfl⟩ | ⟨rfl, rfl⟩ | ⟨rfl, rfl⟩ | ⟨rfl, rfl⟩
                · cases hv
                · cases hv
                · cases L with
                  | nil => rfl
                  | cons k L =>
                    have := leads_mono es43_pos _ _ _ _ _ h
                    simp at this
                    omega
                · cases hv
              · cases h
        · cases hu
        · cases hu
      · cases h
theorem hr43 : HR es43 1 3 0 ≤ 55 := by
  have hok : EsOk es43 3 := by
    refine ⟨?_, ?_, ?_, ?_⟩ <;> intro e he <;> simp [es43] at he <;> rcases he with rfl | rfl | rfl | rfl <;> simp
  obtain ⟨h1, _, _⟩ := hr_spec hok (s := 1) (by omega)
  obtain ⟨h2, _⟩ := dr_fix hok (s := 1) (by omega)
  have h3 := h1 ⟨2, 0, 30, 15⟩ (by simp [es43])
  have h4 := h2 ⟨1, 2, 40, 40⟩ (by simp [es43])
  have h5 : DR es43 1 3 1 ≤ 0 := by
    have := rounds_mono es43 (t0R 1) 1 (Nat.zero_le 3)
    have e : rounds es43 (t0R 1) 0 1 = 0 := t0R_start 1
    rw [e] at this
    exact this
  have h6 : DR es43 1 3 2 ≤ DR es43 1 3 1 + 40 := by
    rcases Int.lt_or_le (DR es43 1 3 1 + 40) (DR es43 1 3 2) with h | h
    · exfalso
      unfold rel at h4
      rw [if_pos h] at h4
      have := congrFun h4 2
      rw [upd_same] at this
      simp only at this h
      omega
    · exact h
  simp only at h3
  omega
set_option maxRecDepth 100000 in
set_option maxHeartbeats 4000000 in
theorem alive43 (w : World) (hT : Tab w) : Calls Tryd.prog 20 #[] w fun e w' => e = .returned (.bool true) ∧ Keep [] w w' := by
  go_enter Tryd.func20, Tryd.ntmps20
  go_wp2_with fail
  refine (three_no _).mono ?_
  rintro e w1 ⟨v, rfl, hI, k1⟩
  have HIC : Hid ((imgCells v (exT 2)).length = 4) := show _ = _ from rfl
  have hone1 : Hid (∀ u ∈ imgCells v (exT 2), u.oneCell' = true) := by
    intro u hu
    simp [imgCells] at hu
    rcases hu with rfl | rfl | rfl | rfl <;> rfl
  have HK := fun W (k : Keep [] w W) (h : ImgAt W v (exT 2)) => Lib.hid (known_yes v (exT 2) W (hT.keep0 k) h (by kernel_rfl) (by rw [exT_adm]))
  have HF := fun W vc (h : ImgAt W v (exT 2)) (hc : CrtE W vc (fullCrt (exT 2))) => Lib.hid (find_yes v (exT 2) vc (fullCrt (exT 2)) 1 0 W h hc exT_chk (fullCrt_len _) (edgeB_full exT_chk h.ok) (by simp [exT]) (by simp [exT]) (by decide))
  have HR_ := fun W vc L A cp z (h : ImgAt W v (exT 2)) (hc : CrtE W vc (fullCrt (exT 2))) hL hLl hld => Lib.hid (right43_any v (exT 2) vc (fullCrt (exT 2)) 1 0 L A cp z W h hc exT_chk (fullCrt_len _) (edgeB_full exT_chk h.ok) hL hLl (by simp [exT]) hld)
  rw [egs43] at HF HR_
  have HI1 := Lib.hid hI
  have HK1 := Lib.hid k1
  have HM3 : Hid ((exT 2).modes.length = 3) := rfl
  clear hT
  rw [HM3.out] at HF
  generalize hx : exT 2 = x at *
  generalize hil : imgCells v x = il at *
  go_wp2_with (refine stop_store 26 (.tmp 1) (.tmp 6) rfl ?_)
  constructor
  refine wpList_store_all rfl 26 (.tmp 1) (.tmp 6) rfl rfl rfl (vs := il) (by rw [HIC.out]; exact agg_image.2) (Blk.new _ _ _) hone1.out ?_ ?_
  · rw [HIC.out]; rfl
  intro w2 d2 k2
  have k12 : Keep [] w1 w2 := ((Keep.refl [] w1).alloc _).trans k2 (fun y hy hlt => by simp at hy; omega)
  have HKn := HK w2 (HK1.out.then k12) (HI1.out.keep0 k12)
  have HD2 := Lib.hid d2
  have HC2 := Lib.hid d2.cellsAt
  have HK2 := Lib.hid k12
  clear HK d2 k2 k12 hI k1
  go_wp2_with (refine wpList_load_agg rfl 26 (.tmp 1) rfl rfl (cs := il) (by rw [HIC.out]; exact agg_image) HC2.out ?_)
  refine HKn.out.mono ?_
  rintro e w3 ⟨vc, rfl, hc3, k3⟩
  have HCC : Hid ((crtCells vc (fullCrt x)).length = 2) := show _ = _ from rfl
  have hone3 : Hid (∀ u ∈ crtCells vc (fullCrt x), u.oneCell' = true) := by
    intro u hu
    simp [crtCells] at hu
    rcases hu with rfl | rfl <;> rfl
  have HE3 := Lib.hid hc3
  have HK3 := Lib.hid (HK2.out.then k3)
  have HD3 := Lib.hid (HD2.out.keep0 k3)
  replace HF := fun W => HF W vc
  replace HR_ := fun W => HR_ W vc
  generalize crtCells vc (fullCrt x) = cl at *
  clear hc3 k3 HKn HC2
  go_wp2_with (refine stop_store 30 (.tmp 2) (.tmp 10) rfl ?_)
  constructor
  refine wpList_store_all rfl 30 (.tmp 2) (.tmp 10) rfl rfl rfl (vs := cl) (by rw [HCC.out]; exact agg_cert.2) (Blk.new _ _ _) hone3.out ?_ ?_
  · rw [HCC.out]; rfl
  intro w4 d4 k4
  have k34 : Keep [] w3 w4 := ((Keep.refl [] w3).alloc _).trans k4 (fun y hy hlt => by simp at hy; omega)
  have HFw := HF w4 (HI1.out.keep0 (HK3.out.then k34)) (HE3.out.keep0 k34)
  have HI4 := Lib.hid (HD3.out.keep0 k34).cellsAt
  have HC4 := Lib.hid d4.cellsAt
  have HD4 := Lib.hid d4
  have HD4i := Lib.hid (HD3.out.keep0 k34)
  have HE4 := Lib.hid (HE3.out.keep0 k34)
  have HK4 := Lib.hid (HK3.out.then k34)
  clear HF d4 k4 k34
  go_wp2_with (first
    | (refine wpList_load_agg rfl 26 (.tmp 1) rfl rfl (cs := il) (by rw [HIC.out]; exact agg_image) HI4.out ?_)
    | (refine wpList_load_agg rfl 30 (.tmp 2) rfl rfl (cs := cl) (by rw [HCC.out]; exact agg_cert) HC4.out ?_))
  refine HFw.out.mono ?_
  clear HFw HI4 HC4
  rintro e w5 (⟨A, cp, L, rfl, ho, ⟨_, hl1, hld, hg, hz⟩, k5⟩ | ⟨rfl, ⟨hn, _⟩, _⟩)
  · have hL12 := way43 hld hr43
    subst hL12
    obtain ⟨b, o, rfl, hb, hc⟩ := (Reads.of_own ho).addr (by decide)
    have c0 := hc 0 (.int .i64 1) rfl
    have c1 := hc 1 (.int .i64 2) rfl
    have HRD := Lib.hid (Reads.of_own ho)
    have HLD := Lib.hid hld
    have HK5 := Lib.hid (HK4.out.then k5)
    have HE5 := Lib.hid (HE4.out.keep0 k5)
    have HD5 := Lib.hid (HD4.out.keep0 k5)
    have HD5i := Lib.hid (HD4i.out.keep0 k5)
    simp only [Nat.add_zero] at c0 c1
    clear hld hg hz hl1 hc ho k5
    generalize HR es43 1 3 0 = z at *
    go_wp2_with (refine stop_store 70 (.tmp 4) (.tmp 16) rfl ?_)
    constructor
    refine wpList_store_all rfl 70 (.tmp 4) (.tmp 16) rfl rfl rfl (vs := [.slice (some ⟨b, o, none⟩) 2 cp, .int .i64 z]) agg_way.2 (Blk.new _ _ _) (by simp [Value.oneCell']) rfl ?_
    intro w6 d6 k6
    have k56 : Keep [] w5 w6 := ((Keep.refl [] w5).alloc _).trans k6 (fun y hy hlt => by simp at hy; omega)
    have e0 := d6.at_ (j := 0) (u := .slice (some ⟨b, o, none⟩) 2 cp) rfl
    have f0 := (k56.cell (p := ⟨b, o, none⟩) hb (by simp)).trans c0
    have f1 := (k56.cell (p := ⟨b, o + 1, none⟩) hb (by simp)).trans c1
    have HW6 := Lib.hid d6.cellsAt
    have HI6 := Lib.hid (HD5i.out.keep0 k56).cellsAt
    have HC6 := Lib.hid (HD5.out.keep0 k56).cellsAt
    have HRT := HR_ w6 _ _ cp z (HI1.out.keep0 (HK5.out.then k56)) (HE5.out.keep0 k56) (HRD.out.keep0 k56) (by decide) HLD.out
    have HK6 := Lib.hid (HK1.out.then (HK5.out.then k56))
    clear d6 k6 k56 c0 c1 HR_
    go_wp2_with (first
      | (refine wpList_agg_gd rfl 26 (.tmp 1) rfl rfl (cs := il) (by rw [HIC.out]; exact agg_image) HI6.out ?_)
      | (refine wpList_agg_gd rfl 30 (.tmp 2) rfl rfl (cs := cl) (by rw [HCC.out]; exact agg_cert) HC6.out ?_)
      | (refine wpList_agg_gd rfl 70 (.tmp 4) rfl rfl (cs := [.slice (some ⟨b, o, none⟩) 2 cp, .int .i64 z]) agg_way HW6.out ?_))
    refine HRT.out.mono ?_
    rintro e w7 ⟨rfl, k7⟩
    go_wp2
    go_ret
    exact ⟨rfl, HK6.out.then k7⟩
  · exact absurd (⟨_, .snoc ⟨2, 0, 30, 15⟩ (.snoc ⟨1, 2, 40, 40⟩ .nil (by simp [es43])) (by simp [es43])⟩ : Gets es43 1 0) hn
end Go.Proofs.YteocldlglklnjaaDoor
