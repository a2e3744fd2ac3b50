/- What an edge of an image that may be is like; offsets that are no less. No program in sight. No condition. -/
import Derived.Test.YteocldlglklnjaaDoorWinPlain
import Derived.Test.YteocldlglklnjaaDoorWinF
import Derived.Test.YteocldlglklnjaaDoorRef19P
import Derived.Test.YteocldlglklnjaaDoorSmall
namespace Go.Proofs.YteocldlglklnjaaDoor
open Go.RowKit

theorem setOf10_get {x : Img} {a : Nat} (h : a < x.modes.length) : setOf10 x (a : Int) = x.modes[a].set := by
  unfold setOf10
  rw [if_pos (by omega), Int.toNat_natCast, List.getD_eq_getElem?_getD, List.getElem?_eq_getElem h]; rfl
theorem edge_w {x : Img} (hr : (chkImg x).2 = 0) (ho : x.Ok) (k : Nat) (hk : k < x.edges.length) : ∃ f t, EdgeIn x k f t ∧ f < 4294967296 ∧ t < 4294967296 ∧ clsE x k = clsOf f t ∧ tabE x k = ceilOf x.tasks (f ||| t) ∧ InW x.tasks.length (f ||| t) ∧ InW x.tasks.length t := by
  have hR := right_of hr
  obtain ⟨⟨a0, a1⟩, ⟨b0, b1⟩, _⟩ := hR.edgeIn k hk
  obtain ⟨a, ha⟩ : ∃ a : Nat, x.edges[k].frm = (a : Int) := ⟨x.edges[k].frm.toNat, by omega⟩
  obtain ⟨b, hb⟩ : ∃ b : Nat, x.edges[k].to = (b : Int) := ⟨x.edges[k].to.toNat, by omega⟩
  have ha1 : a < x.modes.length := by omega
  have hb1 : b < x.modes.length := by omega
  have sf := setOf10_get ha1
  have st := setOf10_get hb1
  have hf : x.modes[a].set < 4294967296 := ho.set _ (List.getElem_mem _)
  have ht : x.modes[b].set < 4294967296 := ho.set _ (List.getElem_mem _)
  have hc : clsE x k = clsOf x.modes[a].set x.modes[b].set := by
    unfold clsE
    rw [List.getElem?_eq_getElem hk]
    show clsOf (setOf10 x x.edges[k].frm) (setOf10 x x.edges[k].to) = _
    rw [ha, hb, sf, st]
  have i1 : InW x.tasks.length x.modes[a].set := fun i hi => by
    cases e : x.modes[a].set.testBit i with
    | false => rfl
    | true => rw [← sf] at e; have := hR.set_lt (a : Int) i e; omega
  have i2 : InW x.tasks.length x.modes[b].set := fun i hi => by
    cases e : x.modes[b].set.testBit i with
    | false => rfl
    | true => rw [← st] at e; have := hR.set_lt (b : Int) i e; omega
  refine ⟨_, _, ⟨hk, a, b, ha1, hb1, ha, hb, rfl, rfl⟩, hf, ht, hc, ?_, fun i hi => ?_, i2⟩
  · unfold tabE
    rw [hc, clsOf_both hf ht]
  · rw [Nat.testBit_or, i1 i hi, i2 i hi]; rfl
/-- The first k offsets are the greater ones of two rows, the others the second's. -/
def mixL (L M : List Int) (k : Nat) : List Int := (List.range 16).map (fun j => if j < k then max (L.getD j 0) (M.getD j 0) else M.getD j 0)
theorem mixL_len (L M : List Int) (k : Nat) : (mixL L M k).length = 16 := by simp [mixL]
theorem mixL_get (L M : List Int) (k j : Nat) (hj : j < 16) : (mixL L M k)[j]? = some (if j < k then max (L.getD j 0) (M.getD j 0) else M.getD j 0) := by
  unfold mixL
  rw [List.getElem?_map, List.getElem?_range hj]; rfl
theorem mixL_zero {L M : List Int} (h : M.length = 16) : mixL L M 0 = M := by
  apply List.ext_getElem?
  intro j
  rcases Nat.lt_or_ge j 16 with hj | hj
  · rw [mixL_get _ _ _ _ hj, if_neg (by omega), List.getD_eq_getElem?_getD, List.getElem?_eq_getElem (by omega)]; rfl
  · rw [List.getElem?_eq_none (by rw [mixL_len]; omega), List.getElem?_eq_none (by omega)]
theorem mixL_set (L M : List Int) (k : Nat) : mixL L M (k + 1) = (mixL L M k).set k (max (L.getD k 0) (M.getD k 0)) := by
  apply List.ext_getElem?
  intro j
  rw [List.getElem?_set, mixL_len]
  rcases Nat.lt_or_ge j 16 with hj | hj
  · rw [mixL_get _ _ _ _ hj, mixL_get _ _ _ _ hj]
    by_cases e : k = j
    · subst e; simp [hj]
    · rw [if_neg e]
      by_cases h : j < k
      · rw [if_pos h, if_pos (by omega)]
      · rw [if_neg h, if_neg (by omega)]
  · rw [List.getElem?_eq_none (by rw [mixL_len]; omega), List.getElem?_eq_none (by rw [mixL_len]; omega)]
    split
    · rw [if_neg (by omega)]
    · rfl
theorem mixL_same {L M : List Int} {k : Nat} (hk : k < 16) (h : L.getD k 0 ≤ M.getD k 0) : mixL L M (k + 1) = mixL L M k := by
  rw [mixL_set, show max (L.getD k 0) (M.getD k 0) = M.getD k 0 by omega]
  apply List.ext_getElem?
  intro j
  rw [List.getElem?_set, mixL_len]
  split
  · rename_i e
    subst e
    rw [mixL_get _ _ _ _ hk, if_neg (by omega)]
  · rfl
theorem mixL_ok {L M : List Int} (hL : OffOk L) (hM : OffOk M) (k : Nat) : OffOk (mixL L M k) := by
  refine ⟨mixL_len L M k, fun z hz => ?_⟩
  obtain ⟨j, _, rfl⟩ := List.mem_map.1 hz
  have a := hL.get j
  have b := hM.get j
  split <;> omega
theorem mixL_le {L M : List Int} (hL : OffOk L) : LeOff L (mixL L M 16) := fun k => by
  rcases Nat.lt_or_ge k 16 with hk | hk
  · rw [List.getD_eq_getElem?_getD (l := mixL L M 16), mixL_get _ _ _ _ hk, if_pos hk, Option.getD_some]
    omega
  · rw [List.getD_eq_getElem?_getD (l := mixL L M 16), List.getElem?_eq_none (by rw [mixL_len]; omega), List.getD_eq_getElem?_getD (l := L), List.getElem?_eq_none (by rw [hL.1]; omega)]
    exact Int.le_refl _
theorem iv_set (l : List Int) (k : Nat) (z : Int) : (iv l).toArray.setIfInBounds k (.int .i64 z) = (iv (l.set k z)).toArray := by
  unfold iv
  rw [List.setIfInBounds_toArray, List.map_set]
def z8 : List Int := [0, 0, 0, 0, 0, 0, 0, 0]
def z16 : List Int := [0, 0, 0, 0, 0, 0, 0, 0, 0, 0, 0, 0, 0, 0, 0, 0]
theorem z16_ok : OffOk z16 := ⟨rfl, by simp [z16]⟩
/-- An edge of an image that may be. -/
structure EdW (x : Img) (k : Nat) : Prop where
  small : Small x
  lt : k < x.edges.length
  ok : x.Ok
  both : InW x.tasks.length (clsE x k).both
  to_ : InW x.tasks.length (clsE x k).to
theorem edW_of {x : Img} (hx0 : (chkImg x).2 = 0) (ho : x.Ok) {k : Nat} (hk : k < x.edges.length) : EdW x k := by
  obtain ⟨f, t, _, hf, ht, hc, _, h1, h2⟩ := edge_w hx0 ho k hk
  exact ⟨small_of hx0, hk, ho, by rw [hc, clsOf_both hf ht]; exact h1, by rw [hc, clsOf_to hf ht]; exact h2⟩
end Go.Proofs.YteocldlglklnjaaDoor
