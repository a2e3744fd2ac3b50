/- SteadyTells: for every image and every two sets the law returns true and its arguments read as before. Condition: math/bits' table is laid as the program's text lays it (the card ties it). -/
import Derived.Test.YtajlkfhekligeaaDoorTied
import Derived.Test.YtajlkfhekligeaaDoorLaw18E
namespace Go.Proofs.YtajlkfhekligeaaDoor
open Go.ChangeShapes Go.WideShapes Go.ChangeAt Go.RowKit Go.Deep

set_option maxRecDepth 100000 in
theorem steadyTells_lifted (os : Os) (started : os.Started) (H : Type) (enc : TypeId × Value → H) :
    ReturnsInHanded {} Tryd.checked os 7 .any (fun w args => (Rows.steadyTellsSpec.pre enc Tryd.prog Tryd.f7 [] false w args ∧ laidMetH Tryd.prog laidB w) ∧ sizedMet enc Tryd.prog Tryd.f7 (OpenSpec.ofChange Rows.steadyTellsSpec) false w args)
      (Rows.steadyTellsSpec.post enc Tryd.prog Tryd.f7 false true false false) := by
  refine law_lifted_and (C := Tryd.checked) (X := laidMetH Tryd.prog laidB) 4 (fun _ _ e h => laidMetH_heap e h) own started (by kernel_rfl) Tryd.func7
    (ChangeSpec.witness_shaped (enc := enc) (C := Tryd.checked) (os := os) (X := fun w _ => laidMetH Tryd.prog laidB w) false (World.doorLaid Tryd.prog 400 os) #[.agg #[.int .i64 0, .slice none 0 0, .slice none 0 0, .slice none 0 0], .int .u32 0, .int .u32 0] 9 rfl (World.shaped_of_RefB (by kernel_rfl) (by kernel_rfl)) (by kernel_rfl) (by kernel_rfl) (by kernel_rfl) (door_met os _))
    rfl (fun ds h => by match ds, h with | [d, e, g], _ => rfl) rfl Tryd.underlying4 laidOut
    (by rw [Tryd.params7]; intro t ht; simp only [List.mem_cons, List.not_mem_nil, or_false] at ht; rcases ht with rfl | rfl | rfl <;> exact ⟨by kernel_rfl, of_decide_eq_true (by kernel_rfl)⟩) ?_
  intro W base args ds ps hX hA0 hval
  have hA : DataW.TrodAll enc Tryd.prog W 0 (fun _ => true) true Tryd.f7.params.toList args.toList ds ps := hA0
  rw [Tryd.params7] at hA hval
  obtain ⟨v0, v1, v2, d0, d1, d2, p0, p1, p2, hargs, rfl, rfl, ⟨f0, h0⟩, h1, h2⟩ := trodAll_three hA
  subst hargs
  obtain ⟨cs, rfl, hsz⟩ := okWide_struct Tryd.underlying26 (hval 0 26 v0 rfl rfl)
  obtain ⟨a, rfl, rfl, rfl, hwf⟩ := open_int Tryd.underlying50 (hval 1 50 v1 rfl rfl) h1
  obtain ⟨a2, rfl, rfl, rfl, hwf2⟩ := open_int Tryd.underlying50 (hval 2 50 v2 rfl rfl) h2
  obtain ⟨v, x, hcs, hat⟩ := rd_image h0
  have e1 : cs = (imgCells v x).toArray := by
    have : cs.toList = imgCells v x := hcs
    rw [← this]
  rw [e1]
  obtain ⟨s, rfl, hs⟩ := wf_bounds_u32 hwf
  obtain ⟨s2, rfl, hs2⟩ := wf_bounds_u32 hwf2
  exact steadyTells_any v x s s2 W (tab_of_laid hX) hat hs hs2

theorem steadyTells_holds : Rows.SteadyTellsSaid :=
  OpenClaim.holds_of_wide 7 Tryd.f7 rfl rfl rfl rfl rfl rfl rfl ⟨rfl, rfl, rfl, rfl, rfl⟩ rfl rfl rfl rfl rfl (by kernel_rfl) Tryd.func7 (by kernel_rfl)
    (of_decide_eq_true (by kernel_rfl)) (by unfold Func.isWrapper; first | (rw [if_pos (by decide +kernel)]; kernel_rfl) | (rw [if_neg (by decide +kernel)]; exact ⟨rfl, rfl⟩))
    (fun os started H enc _ => steadyTells_lifted os started H enc)
theorem steadyTells_card_holds : Rows.SteadyTellsCardSaid :=
  Claim7.holds_tied_plain_at .later [] [.data] true Rows.steadyTellsCard.stood.harness false
    steadyTells_holds (fun _ h => by cases h) (by kernel_rfl) (fun _ h => by cases h) steadyTells_row_tie rfl ⟨rfl, rfl⟩ (by kernel_rfl) rfl
    (fun f fn hf hfn => by
      obtain rfl : f = 7 := Option.some.inj ((show Tryd.prog.funcNamed "remontoir/remontoirlaw18.SteadyTells" = some 7 by kernel_rfl).symm.trans hf) |>.symm
      obtain rfl : fn = Tryd.f7 := (Option.some.inj (Tryd.func7.symm.trans hfn)).symm
      exact ⟨by kernel_rfl, fun j t ht => by
        rw [Tryd.params7] at ht
        have hm : t ∈ [26, 50, 50] := by simpa using Array.mem_of_getElem? ht
        have hall : ([26, 50, 50].all fun u => !Tryd.prog.wantsStandIn u) = true := by kernel_rfl
        exact (show Tryd.prog.wantsStandIn t = false by simpa using List.all_eq_true.1 hall t hm)⟩)
    (by kernel_rfl)
#print axioms steadyTells_card_holds
end Go.Proofs.YtajlkfhekligeaaDoor
