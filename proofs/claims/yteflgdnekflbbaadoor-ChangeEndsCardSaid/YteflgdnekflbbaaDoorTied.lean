/- The step from a walk to a given statement of a tied card: the table of math/bits is laid as the program's text lays it; images and sets of bits as arguments. No condition. Arrays of 16 numbers as arguments. No condition. -/
import Derived.Test.YteflgdnekflbbaaDoorTie
import Derived.Test.YteflgdnekflbbaaDoorCards
import Derived.Test.YteflgdnekflbbaaDoorLaw
import Derived.Test.YteflgdnekflbbaaDoorImgOpen
import Derived.Test.YteflgdnekflbbaaDoorMaskAll
import Derived.LaidMore
import Derived.LaidLaws
import Derived.Stop.Joined
import Derived.SevenTiedAt
namespace Go.Proofs.YteflgdnekflbbaaDoor
open Go.ChangeShapes Go.WideShapes Go.ChangeAt Go.RowKit Go.Deep

section
variable {H : Type} {enc : TypeId × Value → H} {P : Program}
theorem law_lifted_and {C : Checked} {os : Os} {f : FuncId} {fn : Func} {s : ChangeSpec} {X : World → Prop} (tb : TypeId) (hX : ∀ (w w' : World), w.heap = w'.heap → X w → X w')
    (hown : ownKnob C.prog.godebug = none) (started : os.Started) (noInit : C.prog.inits.idxOf? f = none) (hfn : C.prog.funcs[f]? = some fn)
    (witness : ∃ (w : World) (tape : Tape) (i : Input), w.os = os ∧ (w.forCall tape i).Shaped C.prog ∧ i.vars = [] ∧ Input.okWide C.prog (w.forCall tape i) .any w.heap.size f i ∧
      ((s.pre enc C.prog fn [] false (w.forCall tape i).memory i.args ∧ X (w.forCall tape i).memory) ∧ sizedMet enc C.prog fn (OpenSpec.ofChange s) false (w.forCall tape i).memory i.args) ∧ ({} : Assume).holds C.prog (lone (Frame.enter C.prog f i.args .normal) [] (w.forCall tape i)))
    (hvars : s.vars = []) (hspec : ∀ ds : List (DataW H), ds.length = fn.params.toList.length → s.fn H ds = { results := [.lit (.bool true)], args := ds })
    (hres : fn.resultTypes = #[tb]) (hbool : C.prog.underlying tb = some .bool) (hlaid : laidOutB C.prog = true)
    (hread : ∀ t ∈ fn.params.toList, C.prog.readableRec t = true ∧ t < C.prog.types.size)
    (walk : ∀ (W : World) (base : Nat) (args : Array Value) (ds : List (DataW H)) (ps : List MemPlace), X W → DataW.TrodAll enc C.prog W 0 (fun _ => true) true fn.params.toList args.toList ds ps →
      (∀ (j : Nat) t v, fn.params[j]? = some t → args[j]? = some v → Value.okWide C.prog W .any base t v) →
      Calls C.prog f args W fun e w' => e = .returned (.bool true) ∧ Keep [] W w') :
    ReturnsInHanded {} C os f .any (fun w args => (s.pre enc C.prog fn [] false w args ∧ X w) ∧ sizedMet enc C.prog fn (OpenSpec.ofChange s) false w args) (s.post enc C.prog fn false true false false) := by
  refine returnsInHanded_of_change_and (X := fun w _ => X w) (fun w w' _ hh h => hX w w' hh h) hown started noInit hfn witness ?_
  intro W base args ds gs before hval hW hcnd _ hXW _
  have hW' := hW
  obtain ⟨p, q, hA, hV, rfl, hfz, hnd⟩ := hW
  rw [hvars] at hV
  obtain ⟨rfl, rfl⟩ := trodVars_none hV
  refine (walk W base args ds p hXW hA hval).mono fun e W' ⟨he, hk⟩ => ?_
  subst he
  have hb := hk.below
  have hlen : ds.length = fn.params.toList.length := by
    have : ∀ (ts : List TypeId) (vs : List Value) (ds : List (DataW H)) (ps : List MemPlace), DataW.TrodAll enc C.prog W 0 (fun _ => true) true ts vs ds ps → ds.length = ts.length := by
      intro ts
      induction ts with
      | nil => intro vs ds ps h; obtain ⟨rfl, rfl, rfl⟩ := trodAll_nil h; rfl
      | cons t ts ih =>
        intro vs ds ps h
        obtain ⟨v, vs', d, ds', p, q, rfl, rfl, rfl, h1, h2⟩ := trodAll_cons h
        simp [ih _ _ _ h2]
    exact this _ _ _ _ hA
  have hs : s.fn H (ds ++ []) = { results := [.lit (.bool true)], args := ds } := by rw [List.append_nil]; exact hspec ds hlen
  have hlt : ∀ x ∈ p, x.block < W.heap.size := fun x hx => by simpa using hW'.lt x (by simp [hx])
  refine ⟨_, rfl, ds, [], p ++ [], [], p, [], hW', ?_, ?_, ?_, hb.frame _, fun h => by cases h⟩
  · rw [hs, hres]
    exact trodAll_mk1 (shut_bool hbool _)
  · rw [hs]
    exact trodAll_stays hlaid hb _ _ _ _ hread hA hlt
  · rw [hs, hvars]
    rfl
end

def laidB : List (String × DataW Unit) := [("math/bits.deBruijn32tab", Rows.laid_math_bits_deBruijn32tab)]
theorem gTab : Tryd.prog.globalNamed "math/bits.deBruijn32tab" = some 0 := by kernel_rfl
theorem tTab : (Tryd.prog.globals[0]?).map (·.type) = some 147 := by kernel_rfl
set_option maxRecDepth 100000 in
/-- What the tie gives the walks. -/
theorem tab_of_laid {W : World} (h : laidMetH Tryd.prog laidB W) : Tab W := by
  rw [MakeChecks.laidMetH_plain _ _ _ (by kernel_rfl)] at h
  obtain ⟨ps, ⟨g0, t0, cs0, f0, p0, q0, hg0, ht0, hv0, hd0, _, _⟩, _, _⟩ := h
  obtain rfl := Option.some.inj (gTab.symm.trans hg0)
  obtain rfl := Option.some.inj (tTab.symm.trans ht0)
  obtain ⟨l0⟩ := cs0
  obtain ⟨xs, m1, rfl, hx1, hlen, hn, hel⟩ := DataW.trod_array Tryd.underlying147 hd0
  have c8 : Tryd.prog.cellsOf 5 = 1 := by kernel_rfl
  have ca : Tryd.prog.cellsOf 147 = 32 := by kernel_rfl
  have hl : l0.length = 32 := by rw [ca] at hlen; exact hlen
  have hxs : xs.map (·.1) = (Lib.deBruijn32tab.map (fun k : Nat => (DataW.lit (.int .u8 (k : Int)) : DataW Unit))) := by
    have := hx1
    simp only [Prod.mk.injEq] at this
    have h2 := this.1
    have h3 : DataW.agg (Lib.deBruijn32tab.map (fun k : Nat => (DataW.lit (.int .u8 (k : Int)) : DataW Unit))) = DataW.agg (xs.map (·.1)) := h2
    injection h3 with h3
    exact h3.symm
  have hcell : ∀ j, j < 32 → W.cell? ⟨0, j, none⟩ = some (.int .u8 (Lib.deBruijn32tab.getD j 0)) := by
    intro j hj
    have hv := World.var?_cell hg0 hv0 j
    rw [hv]
    have h1 := hel j hj
    rw [c8, Nat.mul_one] at h1
    rw [List.drop_eq_getElem_cons (by omega), List.take_succ_cons, List.take_zero, List.getElem?_eq_getElem (by omega)] at h1
    obtain ⟨k, e1, e2, _⟩ := DataW.trod_int Tryd.underlying5 h1
    have h4 : (xs.map (·.1))[j]? = some (DataW.lit (.int .u8 k)) := by
      rw [List.getElem?_map, List.getElem?_eq_getElem (by omega), e2]; rfl
    rw [hxs, List.getElem?_map] at h4
    have hj2 : j < Lib.deBruijn32tab.length := hj
    rw [List.getElem?_eq_getElem hj2] at h4
    have h5 : (Lib.deBruijn32tab[j] : Int) = k := by simpa using h4
    have e1 : l0[j] = .int .u8 k := by simpa using e1
    rw [List.getElem?_toArray, List.getElem?_eq_getElem (by omega), e1, ← h5, List.getD_eq_getElem?_getD, List.getElem?_eq_getElem hj2]
    rfl
  exact ⟨World.block_lt_of_cell? _ _ (hcell 0 (by decide)), hcell⟩
theorem door_met (os : Os) (args : Array Value) : laidMetH Tryd.prog laidB ((World.doorLaid Tryd.prog 400 os).forCall (fun _ _ => 0) ⟨#[], args, []⟩).memory :=
  laidMetH_of_parts3 (fuel := 8) (laidMet_of_run' 8 (by kernel_rfl) (by kernel_rfl)) (by kernel_rfl) (by kernel_rfl)
theorem laidMetH_heap {W W' : World} (e : W.heap = W'.heap) (h : laidMetH Tryd.prog laidB W) : laidMetH Tryd.prog laidB W' := h.of_heap e
end Go.Proofs.YteflgdnekflbbaaDoor

namespace Go.Proofs.YteflgdnekflbbaaDoor
open Go.ChangeShapes Go.WideShapes Go.ChangeAt Go.RowKit Go.Deep

theorem okWide_arr {P : Program} {w : World} {r : Reach} {base : Nat} {t e : TypeId} {n : Nat} {v : Value} (ht : P.underlying t = some (.array n e)) (h : Value.okWide P w r base t v) : ∃ cs, v = .agg cs ∧ cs.size = P.cellsOf t := by
  simp only [Value.okWide, ht] at h
  obtain ⟨cs, h1, h2, _⟩ := h
  exact ⟨cs, h1, h2⟩
theorem rI_offs : RdI Tryd.prog 90 16 := rdI_array Tryd.underlying90 (by kernel_rfl) (by kernel_rfl) rI_int
theorem rd_offs {H : Type} {enc : TypeId × Value → H} {w : World} {base : Nat} {spare : Nat → Bool} {held : Bool} {n : Nat} {cs : List Value} {x : DataW H × List MemPlace} (h : DataW.trod enc Tryd.prog w base spare held n 90 cs = some x) : ∃ L : List Int, cs = iv L ∧ L.length = 16 := by
  obtain ⟨xs, rfl, hl⟩ := rI_offs.list h
  exact ⟨xs, rfl, hl⟩
end Go.Proofs.YteflgdnekflbbaaDoor
