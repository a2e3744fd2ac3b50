/- A certificate as an argument: opened to its cells; is it too great to be asked for (the law's great)? No condition. -/
import Derived.Test.YteocldlglklnjaaDoorShRows
import Derived.Test.YteocldlglklnjaaDoorImgOpen
namespace Go.Proofs.YteocldlglklnjaaDoor
open Go.RowKit
attribute [local go_sem] Oper.semAt_some

/-- A certificate in memory, however great. -/
structure CrtW (w : World) (v : CrtV) (c : Crt) : Prop where
  modes : ∃ vs : List Value, vs.length = c.modes.length ∧ Reads w 1 v.ma c.modes.length vs ∧ ∀ i, (h : i < c.modes.length) → ∃ A cp, vs[i]? = some (.slice A c.modes[i].length cp) ∧ Reads w 3 A c.modes[i].length (c.modes[i].flatMap rowCells)
  edges : Reads w 2 v.ea c.edges.length (c.edges.flatMap spnCells)
  lm : c.modes.length ≤ maxLen
  le : c.edges.length ≤ maxLen
  lr : ∀ r ∈ c.modes, r.length ≤ maxLen
theorem CrtW.keep0 {w w' : World} {v : CrtV} {c : Crt} (h : CrtW w v c) (k : Keep [] w w') : CrtW w' v c := by
  obtain ⟨vs, h1, h2, h3⟩ := h.modes
  exact ⟨⟨vs, h1, h2.keep0 k, fun i hi => (h3 i hi).imp fun A => fun ⟨cp, a, b⟩ => ⟨cp, a, b.keep0 k⟩⟩, h.edges.keep0 k, h.lm, h.le, h.lr⟩
def greatC (c : Crt) : Bool := decide (100 < c.modes.length) || (decide (100 < c.edges.length) || c.modes.any (fun r => decide (100 < r.length)))
theorem CrtW.at_ {w : World} {v : CrtV} {c : Crt} (h : CrtW w v c) (hg : greatC c = false) : CrtAt w v c := by
  unfold greatC at hg
  simp only [Bool.or_eq_false_iff, decide_eq_false_iff_not, List.any_eq_false, decide_eq_true_eq] at hg
  exact ⟨h.modes, h.edges, by omega, by omega, fun r hr => by have := hg.2.2 r hr; omega⟩
theorem agg_certW : AggOf Tryd.prog 30 2 := agg_cert
set_option maxRecDepth 100000 in
set_option maxHeartbeats 2000000 in
theorem great53_any (v : CrtV) (c : Crt) (w : World) (h : CrtW w v c) :
    Calls Tryd.prog 8 #[.agg (crtCells v c).toArray] w fun e w' => e = .returned (.bool (greatC c)) ∧ Keep [] w w' := by
  have hlm := h.lm
  have hle := h.le
  unfold maxLen at hlm hle
  obtain ⟨W0, hW0⟩ : ∃ W0, w.alloc (.cells (crtCells v c).toArray 30) = W0 := ⟨_, rfl⟩
  have b0 : Blk W0 w.heap.size 30 (crtCells v c).toArray := by rw [← hW0]; exact Blk.new _ _ _
  have K0 : Keep [] w W0 := by rw [← hW0]; exact (Keep.refl [] w).alloc _
  have c0 : W0.cell? ⟨w.heap.size, 0, none⟩ = some (.slice v.ma c.modes.length v.mc) := by rw [b0.cell]; rfl
  have c1 : W0.cell? ⟨w.heap.size, 1, none⟩ = some (.slice v.ea c.edges.length v.ec) := by rw [b0.cell]; rfl
  have HW := Lib.hid hW0
  have HGD : Hid (greatC c = (decide (100 < c.modes.length) || (decide (100 < c.edges.length) || c.modes.any (fun r => decide (100 < r.length))))) := show _ = _ from rfl
  have HH := Lib.hid (h.keep0 K0)
  clear hW0 b0 h
  generalize (crtCells v c).toArray = cs at *
  by_cases h1 : 100 < c.modes.length
  · have HR : Hid (greatC c = true) := by show _ = _; rw [HGD.out, decide_eq_true h1]; rfl
    have q : decide ((100 : Int) < (c.modes.length : Int)) = true := decide_eq_true (by omega)
    clear HGD
    go_enter Tryd.func8, Tryd.ntmps8
    go_wp2_with (rw [HW.out])
    go_ret
    exact ⟨by rw [HR.out]; rfl, K0⟩
  have q1 : decide ((100 : Int) < (c.modes.length : Int)) = false := decide_eq_false (by omega)
  by_cases h2 : 100 < c.edges.length
  · have HR : Hid (greatC c = true) := by show _ = _; rw [HGD.out, decide_eq_false h1, decide_eq_true h2]; rfl
    have q : decide ((100 : Int) < (c.edges.length : Int)) = true := decide_eq_true (by omega)
    clear HGD
    go_enter Tryd.func8, Tryd.ntmps8
    go_wp2_with (rw [HW.out])
    go_ret
    exact ⟨by rw [HR.out]; rfl, K0⟩
  have q2 : decide ((100 : Int) < (c.edges.length : Int)) = false := decide_eq_false (by omega)
  rw [decide_eq_false h1, decide_eq_false h2] at HGD
  simp only [Bool.false_or] at HGD
  go_enter Tryd.func8, Tryd.ntmps8
  go_wp2_with (rw [HW.out])
  go_loopw [3] (fun vi wr => ∃ k : Nat, k ≤ c.modes.length ∧ vi = .int .i64 (k : Int) ∧ Hid ((c.modes.take k).any (fun r => decide (100 < r.length)) = false) ∧ W0 = wr) (fun vi _ => c.modes.length - (intOf vi).toNat)
  case atStart => exact ⟨0, Nat.zero_le _, rfl, show _ = _ from rfl, rfl⟩
  case round =>
    obtain ⟨k, hk, rfl, HN, rfl⟩ := hrel
    by_cases hlt : k < c.modes.length
    · obtain ⟨vs, hvl, hrd, hro⟩ := HH.out.modes
      obtain ⟨b1, o1, u1, hA1, _, hu1, hc1⟩ := hrd.at_ hlt
      obtain ⟨A, cp, e1, _⟩ := hro k hlt
      rw [hu1] at e1
      cases e1
      have p0 : (0 : Int) ≤ (k : Int) := by omega
      have p1 : (k : Int) < (c.modes.length : Int) := by omega
      rw [hA1] at c0 ⊢
      by_cases hg : 100 < c.modes[k].length
      · have q : decide ((100 : Int) < (c.modes[k].length : Int)) = true := decide_eq_true (by omega)
        have HR : Hid (greatC c = true) := by
          show _ = _
          rw [HGD.out, List.any_eq_true]
          exact ⟨c.modes[k], List.getElem_mem hlt, decide_eq_true hg⟩
        clear HGD HN
        go_wp2
        go_ret
        exact ⟨by rw [HR.out]; rfl, K0⟩
      · have q : decide ((100 : Int) < (c.modes[k].length : Int)) = false := decide_eq_false (by omega)
        have HN2 : Hid ((c.modes.take (k + 1)).any (fun r => decide (100 < r.length)) = false) := by
          show _ = _
          rw [List.take_succ_eq_append_getElem hlt, List.any_append, HN.out]
          simp; omega
        clear HGD HN
        go_wp2
        go_roundw
        case rel => exact ⟨k + 1, by omega, by go_num, HN2, trivial⟩
        case measure => simp [intOf]; omega
    · obtain rfl : k = c.modes.length := by omega
      have p2 : decide ((c.modes.length : Int) < (c.modes.length : Int)) = false := by simp
      have HR : Hid (greatC c = false) := by
        show _ = _
        rw [HGD.out]
        have := HN.out
        rwa [List.take_length] at this
      clear HGD HN
      go_wp2
      go_ret
      exact ⟨by rw [HR.out]; rfl, K0⟩
end Go.Proofs.YteocldlglklnjaaDoor
