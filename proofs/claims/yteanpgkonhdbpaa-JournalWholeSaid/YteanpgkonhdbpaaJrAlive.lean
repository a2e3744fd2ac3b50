/- The law's own trial of a journal; walked. No condition. -/
import Derived.Test.YteanpgkonhdbpaaJrAliveP
import Derived.Test.YteanpgkonhdbpaaFlashNew
namespace Go.Proofs.Yteanpgkonhdbpaa
open Go.RowKit

set_option maxRecDepth 100000 in
set_option maxHeartbeats 4000000 in
theorem alive_any47 (w : World) : Calls Try.prog 14 #[] w fun e w' => e = .returned (.bool true) ∧ Keep [] w w' := by
  have HN : Hid (∀ W, Calls Try.prog 12 #[.int .i64 2, .int .i64 16, .int .i64 9] W (RetNew W d0A)) := fun W => fnew_yes 2 16 9 W (by decide) (by decide) (by decide) (by decide) (by decide)
  go_enter Try.func14, Try.ntmps14
  go_wp2_with fail
  refine (HN.out _).mono ?_
  rintro e w1 ⟨g, b1, b2, rfl, hg, hb1, hb2, hd1, k1⟩
  have HO := Lib.hid (open_yes g b1 b2 0 2 d0A w1 hd1 d0A_ok rfl (by decide) (by decide) (by decide))
  have HD1 := Lib.hid hd1
  have HK1 := Lib.hid k1
  clear hd1 k1
  go_wp2_with fail
  refine HO.out.mono ?_
  rintro e w2 ⟨gj, rfl, hgj, hj2, k2⟩
  have hd2 := HD1.out.keep0 k2
  have HA := Lib.hid (add_any47 gj g b1 b2 d0A j0A 7 w2 hd2 d0A_ok hj2 (by decide) (by rw [j0A_is]; decide) (by rw [j0A_is]; decide) (by rw [j0A_is]; decide) (by rw [j0A_is]; decide) (by rw [j0A_is]; decide) (by rw [j0A_is]; decide))
  have K2 := Lib.hid (HK1.out.then k2)
  clear hd2 hj2 k2
  go_wp2_with fail
  refine HA.out.mono ?_
  rintro e w3 ⟨rfl, hl3⟩
  have HB := Lib.hid (add_any47 gj g b1 b2 r1A.1 r1A.2.1 8 w3 hl3.dev r1A_ok hl3.jr (by decide) (by rw [r1A_j]; decide) (by rw [r1A_j]; decide) (by rw [r1A_j]; decide) (by rw [r1A_j]; decide) (by rw [r1A_j]; decide) (by rw [r1A_j]; decide))
  have HL3 := Lib.hid hl3
  clear hl3
  go_wp2_with fail
  refine HB.out.mono ?_
  rintro e w4 ⟨rfl, hl4⟩
  have hd4 : DevAt w4 g b1 b2 r2A.1 := hl4.dev
  have hj4 : JrAt w4 gj g r2A.2.1 := hl4.jr
  have K4 : Keep [] w w4 := by
    have hsz := HK1.out.size
    have h3 := K2.out.trans HL3.out.keep (fun y hy hlt => by simp only [List.mem_cons, List.not_mem_nil, or_false] at hy; omega)
    exact h3.trans hl4.keep (fun y hy hlt => by simp only [List.mem_cons, List.not_mem_nil, or_false] at hy; omega)
  have HC := Lib.hid (allHelp_any gj g b1 b2 r2A.1 r2A.2.1 w4 hj4 hd4 r2A_ok (by rw [r2A_j, r2A_ns]; decide) (by rw [r2A_j, r2A_nw]; show (sortE (entsJ (ownW r2A.1 0) 2 4)).length ≤ _; rw [r2A_all]; decide))
  have hall : sortE (entsJ (ownW r2A.1 r2A.2.1.base) r2A.2.1.many (r2A.1.nw / 4)) = [(1, 7), (2, 8)] := by rw [r2A_j, r2A_nw]; exact r2A_all
  rw [hall] at HC
  rw [show (addJ d0A j0A 7).2.2 = 0 from r1A_e, show (addJ r1A.1 r1A.2.1 8).2.2 = 0 from r2A_e]
  have HKP : Hid (∀ W, Keep [] w4 W → Calls Try.prog 17 #[.pointer (some ⟨gj, 0, none⟩)] W fun e w' => e = .returned (.int .i64 4) ∧ Keep [] W w') := fun W hk => by
    have := keeps_any47 gj g b1 b2 r2A.1 r2A.2.1 W (hd4.keep0 hk) r2A_ok (hj4.keep0 hk) (by rw [r2A_j]; decide) (by rw [r2A_j]; decide)
    rw [r2A_j, r2A_nw] at this
    exact this
  have HK4 := Lib.hid K4
  clear hl4 hd4 hj4 K4 HL3 K2 HB HA HO HD1 HK1 hall
  go_wp2_with fail
  refine HC.out.mono ?_
  rintro e w5 ⟨A, c, rfl, hown, k5⟩
  obtain ⟨ba, oa, rfl, hlta, hcs⟩ := (Reads.of_own hown).addr (by decide)
  have c0 : w5.cell? ⟨ba, oa, none⟩ = some (.int .u32 1) := hcs 0 _ rfl
  have c1 : w5.cell? ⟨ba, oa + 1, none⟩ = some (.int .u32 7) := hcs 1 _ rfl
  have c2 : w5.cell? ⟨ba, oa + 2, none⟩ = some (.int .u32 2) := hcs 2 _ rfl
  have c3 : w5.cell? ⟨ba, oa + 3, none⟩ = some (.int .u32 8) := hcs 3 _ rfl
  clear hcs hown
  go_wp2_with fail
  refine (HKP.out _ k5).mono ?_
  rintro e w6 ⟨rfl, k6⟩
  go_wp2
  go_ret
  exact ⟨rfl, (HK4.out.then k5).then k6⟩
end Go.Proofs.Yteanpgkonhdbpaa
