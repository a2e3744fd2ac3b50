/- The statement ScriptSame, walked for any two rows of steps. No other condition. -/
import Derived.Test.YtoepkhkaifgddaaStAlive
import Derived.Test.YtoepkhkaifgddaaStGreat
import Derived.Test.YtoepkhkaifgddaaStRSame
namespace Go.Proofs.Ytoepkhkaifgddaa
open Go.RowKit

set_option maxRecDepth 100000 in
theorem same34_any (A A' : Option Addr) (c c' : Nat) (ms ms' : List (Stp × StpV)) (w : World) (h : StepsAt w A ms) (h' : StepsAt w A' ms') :
    Calls Try.prog 4 #[.slice A ms.length c, .slice A' ms'.length c'] w fun e w' => e = .returned (.bool true) ∧ Keep [] w w' := by
  have HG1 := fun W k => Lib.hid (stgreat_any A c ms W (h.keep0 k))
  have HG2 := fun W k => Lib.hid (stgreat_any A' c' ms' W (h'.keep0 k))
  have HS := fun W k => Lib.hid (ssame_any A A' c c' ms ms' W (h.keep0 k) (h'.keep0 k))
  have HT := fun W k => Lib.hid (rstsame_any A A' c c' ms ms' W (h.keep0 k) (h'.keep0 k))
  have HU := fun W k => Lib.hid (ssame_any A A c c ms ms W (h.keep0 k) (h.keep0 k))
  rw [show decide (stps ms = stps ms) = true from decide_eq_true rfl] at HU
  have HA := fun W => Lib.hid (alive34_any W)
  clear h h'
  generalize greatS (stps ms) = g1 at *
  generalize greatS (stps ms') = g2 at *
  generalize decide (stps ms = stps ms') = d at *
  generalize ms.length = n at *
  generalize ms'.length = n' at *
  go_enter Try.func4, Try.ntmps4
  go_wp2_with fail
  refine (HG1 _ (Keep.refl _ _)).out.mono ?_
  rintro e w1 ⟨rfl, k1⟩
  cases g1
  · go_wp2_with fail
    refine (HG2 _ k1).out.mono ?_
    rintro e w2 ⟨rfl, k2⟩
    have K2 := k1.then k2
    cases g2
    · go_wp2_with fail
      refine (HS _ K2).out.mono ?_
      rintro e w3 ⟨rfl, k3⟩
      have K3 := K2.then k3
      go_wp2_with fail
      refine (HT _ K3).out.mono ?_
      rintro e w4 ⟨rfl, k4⟩
      have K4 := K3.then k4
      have hdd : (d == d) = true := by simp
      go_wp2_with fail
      refine (HU _ K4).out.mono ?_
      rintro e w5 ⟨rfl, k5⟩
      have K5 := K4.then k5
      go_wp2_with fail
      refine (HA _).out.mono ?_
      rintro e w6 ⟨rfl, k6⟩
      go_wp2
      go_ret
      exact ⟨rfl, K5.then k6⟩
    · go_wp2
      go_ret
      exact ⟨rfl, K2⟩
  · go_wp2
    go_ret
    exact ⟨rfl, k1⟩
end Go.Proofs.Ytoepkhkaifgddaa
