/- SteadyGrows: for every image, every set and every Add the law returns true and its arguments read as before. Condition: math/bits' table is laid as the program's text lays it (the card ties it). -/
import Derived.Test.YtajlkfhekligeaaDoorTied
import Derived.Test.YtajlkfhekligeaaDoorGrowB
namespace Go.Proofs.YtajlkfhekligeaaDoor
open Go.ChangeShapes Go.WideShapes Go.ChangeAt Go.RowKit Go.Deep

theorem rI_add : RdI Tryd.prog 73 1 := rdI_struct Tryd.underlying73 (by kernel_rfl) ⟨rfl, 1, by kernel_rfl, rI_int, rfl⟩
theorem rd_add {H : Type} {enc : TypeId × Value → H} {w : World} {base : Nat} {spare : Nat → Bool} {held : Bool} {n : Nat} {cs : List Value} {x : DataW H × List MemPlace} (h : DataW.trod enc Tryd.prog w base spare held n 73 cs = some x) : ∃ a : Int, cs = [.int .i64 a] := by
  obtain ⟨xs, rfl, hl⟩ := rI_add.list h
  match xs, hl with
  | [a], _ => exact ⟨a, rfl⟩

set_option maxRecDepth 100000 in
theorem steadyGrows_lifted (os : Os) (started : os.Started) (H : Type) (enc : TypeId × Value → H) :
    ReturnsInHanded {} Tryd.checked os 5 .any (fun w args => (Rows.steadyGrowsSpec.pre enc Tryd.prog Tryd.f5 [] false w args ∧ laidMetH Tryd.prog laidB w) ∧ sizedMet enc Tryd.prog Tryd.f5 (OpenSpec.ofChange Rows.steadyGrowsSpec) false w args)
      (Rows.steadyGrowsSpec.post enc Tryd.prog Tryd.f5 false true false false) := by
  refine law_lifted_and (C := Tryd.checked) (X := laidMetH Tryd.prog laidB) 4 (fun _ _ e h => laidMetH_heap e h) own started (by kernel_rfl) Tryd.func5
    (ChangeSpec.witness_shaped (enc := enc) (C := Tryd.checked) (os := os) (X := fun w _ => laidMetH Tryd.prog laidB w) false (World.doorLaid Tryd.prog 400 os) #[.agg #[.int .i64 0, .slice none 0 0, .slice none 0 0, .slice none 0 0], .int .u32 0, .agg #[.int .i64 0]] 9 rfl (World.shaped_of_RefB (by kernel_rfl) (by kernel_rfl)) (by kernel_rfl) (by kernel_rfl) (by kernel_rfl) (door_met os _))
    rfl (fun ds h => by match ds, h with | [d, e, g], _ => rfl) rfl Tryd.underlying4 laidOut
    (by rw [Tryd.params5]; intro t ht; simp only [List.mem_cons, List.not_mem_nil, or_false] at ht; rcases ht with rfl | rfl | rfl <;> exact ⟨by kernel_rfl, of_decide_eq_true (by kernel_rfl)⟩) ?_
  intro W base args ds ps hX hA0 hval
  have hA : DataW.TrodAll enc Tryd.prog W 0 (fun _ => true) true Tryd.f5.params.toList args.toList ds ps := hA0
  rw [Tryd.params5] at hA hval
  obtain ⟨v0, v1, v2, d0, d1, d2, p0, p1, p2, hargs, rfl, rfl, ⟨f0, h0⟩, h1, h2⟩ := trodAll_three hA
  subst hargs
  obtain ⟨cs, rfl, hsz⟩ := okWide_struct Tryd.underlying26 (hval 0 26 v0 rfl rfl)
  obtain ⟨a, rfl, rfl, rfl, hwf⟩ := open_int Tryd.underlying50 (hval 1 50 v1 rfl rfl) h1
  obtain ⟨cs2, rfl, hsz2⟩ := okWide_struct Tryd.underlying73 (hval 2 73 v2 rfl rfl)
  obtain ⟨f2, h2⟩ := h2
  obtain ⟨ad, had⟩ := rd_add h2
  have e2 : cs2 = #[.int .i64 ad] := by
    have : cs2.toList = [.int .i64 ad] := had
    rw [← this]
  rw [e2]
  obtain ⟨v, x, hcs, hat⟩ := rd_image h0
  have e1 : cs = (imgCells v x).toArray := by
    have : cs.toList = imgCells v x := hcs
    rw [← this]
  rw [e1]
  obtain ⟨s, rfl, hs⟩ := wf_bounds_u32 hwf
  exact steadyGrows_any v x s ad W (tab_of_laid hX) hat hs

theorem steadyGrows_holds : Rows.SteadyGrowsSaid :=
  OpenClaim.holds_of_wide 5 Tryd.f5 rfl rfl rfl rfl rfl rfl rfl ⟨rfl, rfl, rfl, rfl, rfl⟩ rfl rfl rfl rfl rfl (by kernel_rfl) Tryd.func5 (by kernel_rfl)
    (of_decide_eq_true (by kernel_rfl)) (by unfold Func.isWrapper; first | (rw [if_pos (by decide +kernel)]; kernel_rfl) | (rw [if_neg (by decide +kernel)]; exact ⟨rfl, rfl⟩))
    (fun os started H enc _ => steadyGrows_lifted os started H enc)
theorem steadyGrows_card_holds : Rows.SteadyGrowsCardSaid :=
  Claim7.holds_tied_plain_at .later [] [.data] true Rows.steadyGrowsCard.stood.harness false
    steadyGrows_holds (fun _ h => by cases h) (by kernel_rfl) (fun _ h => by cases h) steadyGrows_row_tie rfl ⟨rfl, rfl⟩ (by kernel_rfl) rfl
    (fun f fn hf hfn => by
      obtain rfl : f = 5 := Option.some.inj ((show Tryd.prog.funcNamed "remontoir/remontoirlaw18.SteadyGrows" = some 5 by kernel_rfl).symm.trans hf) |>.symm
      obtain rfl : fn = Tryd.f5 := (Option.some.inj (Tryd.func5.symm.trans hfn)).symm
      exact ⟨by kernel_rfl, fun j t ht => by
        rw [Tryd.params5] at ht
        have hm : t ∈ [26, 50, 73] := by simpa using Array.mem_of_getElem? ht
        have hall : ([26, 50, 73].all fun u => !Tryd.prog.wantsStandIn u) = true := by kernel_rfl
        exact (show Tryd.prog.wantsStandIn t = false by simpa using List.all_eq_true.1 hall t hm)⟩)
    (by kernel_rfl)
#print axioms steadyGrows_card_holds
end Go.Proofs.YtajlkfhekligeaaDoor
