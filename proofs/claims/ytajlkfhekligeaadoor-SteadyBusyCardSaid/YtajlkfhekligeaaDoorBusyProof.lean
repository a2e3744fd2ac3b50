/- SteadyBusy: for every image and every set the law returns true and its arguments read as before. Condition: math/bits' table is laid as the program's text lays it (the card ties it). -/
import Derived.Test.YtajlkfhekligeaaDoorTied
import Derived.Test.YtajlkfhekligeaaDoorLaw18B
namespace Go.Proofs.YtajlkfhekligeaaDoor
open Go.ChangeShapes Go.WideShapes Go.ChangeAt Go.RowKit Go.Deep

set_option maxRecDepth 100000 in
theorem steadyBusy_lifted (os : Os) (started : os.Started) (H : Type) (enc : TypeId × Value → H) :
    ReturnsInHanded {} Tryd.checked os 4 .any (fun w args => (Rows.steadyBusySpec.pre enc Tryd.prog Tryd.f4 [] false w args ∧ laidMetH Tryd.prog laidB w) ∧ sizedMet enc Tryd.prog Tryd.f4 (OpenSpec.ofChange Rows.steadyBusySpec) false w args)
      (Rows.steadyBusySpec.post enc Tryd.prog Tryd.f4 false true false false) := by
  refine law_lifted_and (C := Tryd.checked) (X := laidMetH Tryd.prog laidB) 4 (fun _ _ e h => laidMetH_heap e h) own started (by kernel_rfl) Tryd.func4
    (ChangeSpec.witness_shaped (enc := enc) (C := Tryd.checked) (os := os) (X := fun w _ => laidMetH Tryd.prog laidB w) false (World.doorLaid Tryd.prog 400 os) #[.agg #[.int .i64 0, .slice none 0 0, .slice none 0 0, .slice none 0 0], .int .u32 0] 8 rfl (World.shaped_of_RefB (by kernel_rfl) (by kernel_rfl)) (by kernel_rfl) (by kernel_rfl) (by kernel_rfl) (door_met os _))
    rfl (fun ds h => by match ds, h with | [d, e], _ => rfl) rfl Tryd.underlying4 laidOut
    (by rw [Tryd.params4]; intro t ht; simp only [List.mem_cons, List.not_mem_nil, or_false] at ht; rcases ht with rfl | rfl <;> exact ⟨by kernel_rfl, of_decide_eq_true (by kernel_rfl)⟩) ?_
  intro W base args ds ps hX hA0 hval
  have hA : DataW.TrodAll enc Tryd.prog W 0 (fun _ => true) true Tryd.f4.params.toList args.toList ds ps := hA0
  rw [Tryd.params4] at hA hval
  obtain ⟨v0, v1, d0, d1, p0, p1, hargs, rfl, rfl, ⟨f0, h0⟩, h1⟩ := trodAll_two hA
  subst hargs
  obtain ⟨cs, rfl, hsz⟩ := okWide_struct Tryd.underlying26 (hval 0 26 v0 rfl rfl)
  obtain ⟨a, rfl, rfl, rfl, hwf⟩ := open_int Tryd.underlying50 (hval 1 50 v1 rfl rfl) h1
  obtain ⟨v, x, hcs, hat⟩ := rd_image h0
  have e1 : cs = (imgCells v x).toArray := by
    have : cs.toList = imgCells v x := hcs
    rw [← this]
  rw [e1]
  obtain ⟨s, rfl, hs⟩ := wf_bounds_u32 hwf
  exact steadyBusy_any v x s W (tab_of_laid hX) hat hs

theorem steadyBusy_holds : Rows.SteadyBusySaid :=
  OpenClaim.holds_of_wide 4 Tryd.f4 rfl rfl rfl rfl rfl rfl rfl ⟨rfl, rfl, rfl, rfl, rfl⟩ rfl rfl rfl rfl rfl (by kernel_rfl) Tryd.func4 (by kernel_rfl)
    (of_decide_eq_true (by kernel_rfl)) (by unfold Func.isWrapper; first | (rw [if_pos (by decide +kernel)]; kernel_rfl) | (rw [if_neg (by decide +kernel)]; exact ⟨rfl, rfl⟩))
    (fun os started H enc _ => steadyBusy_lifted os started H enc)
theorem steadyBusy_card_holds : Rows.SteadyBusyCardSaid :=
  Claim7.holds_tied_plain_at .later [] [.data] true Rows.steadyBusyCard.stood.harness false
    steadyBusy_holds (fun _ h => by cases h) (by kernel_rfl) (fun _ h => by cases h) steadyBusy_row_tie rfl ⟨rfl, rfl⟩ (by kernel_rfl) rfl
    (fun f fn hf hfn => by
      obtain rfl : f = 4 := Option.some.inj ((show Tryd.prog.funcNamed "remontoir/remontoirlaw18.SteadyBusy" = some 4 by kernel_rfl).symm.trans hf) |>.symm
      obtain rfl : fn = Tryd.f4 := (Option.some.inj (Tryd.func4.symm.trans hfn)).symm
      exact ⟨by kernel_rfl, fun j t ht => by
        rw [Tryd.params4] at ht
        have hm : t ∈ [26, 50] := by simpa using Array.mem_of_getElem? ht
        have hall : ([26, 50].all fun u => !Tryd.prog.wantsStandIn u) = true := by kernel_rfl
        exact (show Tryd.prog.wantsStandIn t = false by simpa using List.all_eq_true.1 hall t hm)⟩)
    (by kernel_rfl)
#print axioms steadyBusy_card_holds
end Go.Proofs.YtajlkfhekligeaaDoor
