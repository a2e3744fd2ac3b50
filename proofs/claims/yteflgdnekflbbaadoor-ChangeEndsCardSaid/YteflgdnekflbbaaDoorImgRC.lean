/- May a task be, may queues be: the document's tests. May an edge be: the document's test. Which images may be, where and why others may not: the document's answer; more than is asked. -/
import Derived.Test.YteflgdnekflbbaaDoorImgT
import Derived.Test.YteflgdnekflbbaaDoorImgG
import Derived.Test.YteflgdnekflbbaaDoorReg
import Derived.Deep.DeepCutAuto
import Derived.Deep.LoopGhost
import Derived.Test.YteflgdnekflbbaaDoorImgC
namespace Go.Proofs.YteflgdnekflbbaaDoor
open Go.RowKit

end Go.Proofs.YteflgdnekflbbaaDoor

namespace Go.Proofs.YteflgdnekflbbaaDoor
open Go.RowKit

theorem seenOf_mem (l : List Int) (n : Int) : (seenOf l).contains n = (decide (n ≠ 0) && l.contains n) := by
  have h : ∀ (l : List Int), (∀ m, m ∈ seenOf l ↔ m ≠ 0 ∧ m ∈ l) := by
    intro l
    have : ∀ (l s : List Int) m, m ∈ l.foldl (fun s n => if n = 0 then s else n :: s) s ↔ (m ∈ s ∨ (m ≠ 0 ∧ m ∈ l)) := by
      intro l
      induction l with
      | nil => intro s m; simp
      | cons a l ih =>
        intro s m
        rw [List.foldl_cons, ih]
        by_cases ha : a = 0
        · rw [if_pos ha]
          constructor
          · rintro (h | ⟨h1, h2⟩)
            · exact .inl h
            · exact .inr ⟨h1, by simp [h2]⟩
          · rintro (h | ⟨h1, h2⟩)
            · exact .inl h
            · rcases List.mem_cons.1 h2 with rfl | h2
              · exact absurd ha h1
              · exact .inr ⟨h1, h2⟩
        · rw [if_neg ha]
          constructor
          · rintro (h | ⟨h1, h2⟩)
            · rcases List.mem_cons.1 h with rfl | h
              · exact .inr ⟨ha, by simp⟩
              · exact .inl h
            · exact .inr ⟨h1, by simp [h2]⟩
          · rintro (h | ⟨h1, h2⟩)
            · exact .inl (by simp [h])
            · rcases List.mem_cons.1 h2 with rfl | h2
              · exact .inl (by simp)
              · exact .inr ⟨h1, h2⟩
    intro m
    unfold seenOf
    rw [this l [] m]
    simp
  rw [Bool.eq_iff_iff]
  simp [h l]

/-- The two modes in variables of their own. -/
def TwoModes (wr : World) (s1 s2 : Int) (A1 A2 : Option Addr) (n1 n2 c1 c2 : Nat) (p7 p8 : Value) (wx : World) : Prop :=
  ∃ g7 g8, p7 = .pointer (some ⟨g7, 0, none⟩) ∧ p8 = .pointer (some ⟨g8, 0, none⟩) ∧ Blk wx g7 76 #[.int .u32 s1, .slice A1 n1 c1] ∧ Blk wx g8 76 #[.int .u32 s2, .slice A2 n2 c2] ∧ Keep [] wr wx

end Go.Proofs.YteflgdnekflbbaaDoor

namespace Go.Proofs.YteflgdnekflbbaaDoor
open Go.RowKit

theorem allSet_add (k : Nat) (hk : k < 32) : ((allSet k : Int) + 2 ^ k % 4294967296) % 4294967296 = ((allSet (k + 1) : Nat) : Int) := by
  have h1 : allSet (k + 1) < 4294967296 := allSet_lt (by omega)
  have h2 := allSet_succ k
  rw [pow_mod32 hk]
  omega

set_option maxRecDepth 100000 in
set_option maxHeartbeats 3000000 in
theorem great_any (v : ImgV) (x : Img) (w : World) (h : ImgAt w v x) :
    Calls Tryd.prog 12 #[.agg (imgCells v x).toArray] w fun e w' => e = .returned (.bool (greatImg x)) ∧ Keep [] w w' := by
  have hlt := h.lt
  have hlm := h.lm
  have hle := h.le
  unfold maxLen at hlt hlm hle
  have hb := img_box w v x
  have K0 := (Keep.refl [] w).alloc (.cells (imgCells v x).toArray 26)
  have hmd := h.mode
  have c1 := img_c1 hb
  have c2 := img_c2 hb
  have c3 := img_c3 hb
  have hlq := Lib.hid h.lq
  clear h hb
  have HG : Hid (greatImg x = (decide (40 < x.tasks.length) || decide (20 < x.modes.length) || decide (60 < x.edges.length) || x.modes.any (fun m => decide (20 < m.qs.length)))) := show _ = _ from rfl
  generalize (imgCells v x).toArray = cs at *
  generalize greatImg x = gr at *
  have hc : (40 < x.tasks.length) ∨ (x.tasks.length ≤ 40 ∧ 20 < x.modes.length) ∨ (x.tasks.length ≤ 40 ∧ x.modes.length ≤ 20 ∧ 60 < x.edges.length) ∨ (x.tasks.length ≤ 40 ∧ x.modes.length ≤ 20 ∧ x.edges.length ≤ 60) := by omega
  rcases hc with g1 | ⟨g1, g2⟩ | ⟨g1, g2, g3⟩ | ⟨g1, g2, g3⟩
  iterate 3
    · have HF : Hid (gr = true) := by show _ = _; rw [HG.out]; simp <;> omega
      clear HG hmd hlq
      generalize x.tasks.length = nt at *
      generalize x.modes.length = nm at *
      generalize x.edges.length = ne at *
      go_enter Tryd.func12, Tryd.ntmps12
      go_wp2
      go_ret
      exact ⟨by rw [HF.out]; rfl, K0⟩
  have HF : Hid (gr = x.modes.any (fun m => decide (20 < m.qs.length))) := by
    show _ = _; rw [HG.out]
    have e1 : decide (40 < x.tasks.length) = false := by simp; omega
    have e2 : decide (20 < x.modes.length) = false := by simp; omega
    have e3 : decide (60 < x.edges.length) = false := by simp; omega
    rw [e1, e2, e3]; simp
  clear HG
  go_enter Tryd.func12, Tryd.ntmps12
  go_wp2
  go_loopw [3] (fun vi wr => ∃ k : Nat, k ≤ x.modes.length ∧ vi = .int .i64 k ∧ (x.modes.take k).any (fun m => decide (20 < m.qs.length)) = false ∧ w.alloc (.cells cs 26) = wr) (fun vi _ => x.modes.length - (intOf vi).toNat)
  case atStart => exact ⟨0, Nat.zero_le _, rfl, rfl, rfl⟩
  case round =>
    obtain ⟨k, hk, rfl, hno, rfl⟩ := hrel
    by_cases hlk : k < x.modes.length
    · obtain ⟨b, o, hA, hbl, hms⟩ := hmd (by omega)
      obtain ⟨A, c, hc, _⟩ := hms k hlk
      have q1 := (K0.cell (p := ⟨b, o + k * 2 + 1, none⟩) hbl (by simp)).trans (hc 1 _ rfl)
      have hst : Hid ((x.modes.take (k + 1)).any (fun m => decide (20 < m.qs.length)) = decide (20 < x.modes[k].qs.length)) := by
        show _ = _; rw [List.take_succ_eq_append_getElem hlk, List.any_append, hno]; simp
      have hbd : Hid (20 < x.modes[k].qs.length → x.modes.any (fun m => decide (20 < m.qs.length)) = true) := fun hh =>
        List.any_eq_true.2 ⟨x.modes[k], List.getElem_mem hlk, by simpa using hh⟩
      have hql := hlq.out _ (List.getElem_mem hlk)
      unfold maxLen at hql
      clear hno hms hc hmd
      rw [hA] at c2
      generalize x.modes[k].qs.length = nq at *
      rcases Nat.lt_or_ge 20 nq with g | g
      · have HR := Lib.hid (hbd.out g)
        go_wp2
        go_ret
        exact ⟨by rw [HF.out, HR.out]; rfl, K0⟩
      · have HS : Hid ((x.modes.take (k + 1)).any (fun m => decide (20 < m.qs.length)) = false) := by show _ = _; rw [hst.out]; simp; omega
        go_wp2
        go_roundw
        case rel => exact ⟨k + 1, by omega, by go_num, HS.out, by trivial⟩
        case measure => simp [intOf] <;> omega
    · have HA : Hid (x.modes.any (fun m => decide (20 < m.qs.length)) = false) := by show _ = _; rwa [List.take_of_length_le (by omega)] at hno
      clear hno hmd
      go_wp2
      go_ret
      exact ⟨by rw [HF.out, HA.out]; rfl, K0⟩

end Go.Proofs.YteflgdnekflbbaaDoor
