/- digits.Word, ReadWord and the reference's, walked. No condition. -/
import Derived.Test.YtoepkhkaifgddaaDigText
import Derived.Test.YtoepkhkaifgddaaHexRead
import Derived.Deep.QuietTactic
import Derived.BigQuiet
namespace Go.Proofs.Ytoepkhkaifgddaa
open Go.RowKit

set_option maxRecDepth 100000 in
set_option maxHeartbeats 1000000 in
theorem word_any (x : Nat) (w : World) (hx : x < 4294967296) : Calls Try.prog 59 #[.int .u32 (x : Int)] w (RetStr w (hexL x)) := by
  have hmk : ∀ w, (Instr.makeSlice 114 (.int .i64 8) (.int .i64 8)).run Try.prog w = .ok (.slice (some ⟨w.heap.size, 0, none⟩) 8 8) (w.alloc (.cells #[.int .u8 0, .int .u8 0, .int .u8 0, .int .u8 0, .int .u8 0, .int .u8 0, .int .u8 0, .int .u8 0] 5)) := fun _ => by kernel_rfl
  have hown0 : Hid ((w.alloc (.cells #[.int .u8 0, .int .u8 0, .int .u8 0, .int .u8 0, .int .u8 0, .int .u8 0, .int .u8 0, .int .u8 0] 5)).ownsRow w.heap.size 5 1 (.slice (some ⟨w.heap.size, 0, none⟩) 8 8) 8 (bytesV [0, 0, 0, 0, 0, 0, 0, 0])) :=
    World.ownsRow_lit (base := w.heap.size) (e := 5) (size := 1) w _ 8 (Nat.le_refl _) (by decide) rfl
  have hand := fun k => and_15 x k hx
  have HX := Lib.hid hx
  clear hx
  go_enter Try.func59, Try.ntmps59
  go_wp2
  clear hmk
  go_loopw [4, 8] (fun _ vi wr => ∃ (k : Nat) (l : List UInt8), k ≤ 8 ∧ vi = .int .i64 k ∧ Placed x l k ∧ wr.ownsRow w.heap.size 5 1 (.slice (some ⟨w.heap.size, 0, none⟩) 8 8) 8 (bytesV l) ∧ Keep [] w wr) (fun _ vi _ => 8 - (intOf vi).toNat)
  case atStart => exact ⟨0, _, by omega, rfl, ⟨rfl, fun j hj => by omega⟩, hown0.out, (Keep.refl _ _).alloc _⟩
  case round =>
    obtain ⟨k, l, hk, rfl, hpl, hrow, hkeep⟩ := hrel
    by_cases hlt : k < 8
    · have hc := hrow.cellAt (7 - k) (by omega)
      rw [bytesV_at (by have := hpl.1; omega)] at hc
      have hz := hrow.frozenAt (7 - k)
      have hb := hand k
      have hd : x / 16 ^ k % 16 < 16 := Nat.mod_lt _ (by decide)
      obtain ⟨d, hdd⟩ : ∃ d, d = x / 16 ^ k % 16 := ⟨_, rfl⟩
      rw [← hdd] at hb
      have hd' : d < 16 := by omega
      have HD : Hid (d = x / 16 ^ k % 16) := hdd
      have HF := Lib.hid (figs_at d hd')
      clear hdd hd hand
      go_wp2
      go_roundw
      case rel =>
        have o1 := (hrow.stored (7 - k) (.int .u8 ((fig d).toNat : Int))).1
        have e : (bytesV l).set (7 - k) (.int .u8 ((fig d).toNat : Int)) = bytesV (l.set (7 - k) (fig d)) := by unfold bytesV; rw [List.map_set]
        rw [e] at o1
        refine ⟨k + 1, l.set (7 - k) (fig d), by omega, by go_num, by rw [HD.out]; exact hpl.step hlt, ?_, hkeep.setCell (fun h => ?_) _⟩
        · rw [← HF.out] at o1 ⊢
          exact o1
        · simp only at h; omega
      case measure => simp [intOf] <;> omega
    · obtain rfl : k = 8 := by omega
      have hl : l = hexL x := hpl.fin
      have hcv := run_convert_reads (P := Try.prog) Try.underlying114 Try.underlying5 Try.underlying9 8 (Reads.of_own hrow) (by omega)
      have HL := Lib.hid hl
      clear hrow hl
      go_wp2
      go_ret
      exact ⟨_, rfl, by rw [← HL.out], hkeep⟩

set_option maxRecDepth 100000 in
set_option maxHeartbeats 1000000 in
theorem rword_any (x : Nat) (w : World) (hx : x < 4294967296) : Calls Try.prog 60 #[.int .u32 (x : Int)] w (RetStr w (hexL x)) := by
  have hconv := fun (W : World) (d : UInt8) => run_convert_reads (P := Try.prog) Try.underlying114 Try.underlying5 Try.underlying9 1 (reads_one W 5 d) (by decide)
  have e0 : Hid ((Value.string { data := #[] }) = strOf (hexN x 0)) := show _ = _ from rfl
  go_enter Try.func60, Try.ntmps60
  go_wp2
  go_loopw [0, 3, 4] (fun vx vs vi wr => ∃ (k m : Nat), k ≤ 8 ∧ vi = .int .i64 k ∧ m = x / 16 ^ k ∧ vx = .int .u32 (m : Int) ∧ vs = strOf (hexN x k) ∧ Keep [] w wr) (fun _ _ vi _ => 8 - (intOf vi).toNat)
  case atStart => exact ⟨0, x, by omega, rfl, by simp, rfl, e0.out, Keep.refl _ _⟩
  case round =>
    obtain ⟨k, m, hk, rfl, hm, rfl, rfl, hkeep⟩ := hrel
    have HM := Lib.hid hm
    have hml : m < 4294967296 := by rw [hm]; exact Nat.lt_of_le_of_lt (Nat.div_le_self _ _) hx
    clear hm
    by_cases hlt : k < 8
    · have had := fun W => run_add_str (P := Try.prog) 9 [fig m] (hexN x k) (by rw [hexN_len]; simp; omega) W
      have hc := hconv wr (fig m)
      have hidx := fun W => run_index_figs (P := Try.prog) Try.underlying9 .u32 (m % 16) (Nat.mod_lt _ (by decide)) W
      rw [fig_mod, show (((m % 16 : Nat) : Int)) = (m : Int) % 16 from by omega] at hidx
      clear hconv
      go_wp2
      go_roundw
      case rel =>
        refine ⟨k + 1, m / 16, by omega, by go_num, ?_, by go_num, ?_, hkeep.alloc _⟩
        · rw [HM.out, Nat.div_div_eq_div_mul, ← Nat.pow_succ]
        · rw [hexN_cons, ← HM.out]
      case measure => simp [intOf] <;> omega
    · obtain rfl : k = 8 := by omega
      go_wp2
      go_ret
      exact ⟨_, rfl, rfl, hkeep⟩

theorem take_snoc' (s : ByteArray) (k : Nat) (h : k < s.size) : (bytesOf s).take (k + 1) = (bytesOf s).take k ++ [s[k]] := by
  rw [List.take_succ_eq_append_getElem (by simpa [bytesOf] using h)]; rfl

set_option maxRecDepth 100000 in
set_option maxHeartbeats 1000000 in
theorem rreadWord_any (s : ByteArray) (w : World) (hs : s.size ≤ maxLen) :
    Calls Try.prog 53 #[.string s] w fun e w' => e = .returned (.tuple #[.int .u32 ((readWR (bytesOf s)).1 : Int), .int .i64 (readWR (bytesOf s)).2]) ∧ Keep [] w w' := by
  unfold maxLen at hs
  go_enter Try.func53, Try.ntmps53
  go_wp2
  go_loopw [4, 5, 6] (fun vx vi _ wr => ∃ k : Nat, k ≤ 8 ∧ k ≤ s.size ∧ vi = .int .i64 k ∧ vx = .int .u32 (hexVal ((bytesOf s).take k) : Nat) ∧ Keep [] w wr) (fun _ vi _ _ => 8 - (intOf vi).toNat)
  case atStart => exact ⟨0, by omega, by omega, rfl, rfl, Keep.refl _ _⟩
  case round =>
    obtain ⟨k, hk, hks, rfl, rfl, hkeep⟩ := hrel
    obtain ⟨x, hx⟩ : ∃ x, x = hexVal ((bytesOf s).take k) := ⟨_, rfl⟩
    rw [← hx]
    have hxl : x < 4294967296 := by rw [hx]; exact hexVal_lt _ _ rfl
    have HX := Lib.hid hx
    clear hx
    by_cases hlt : k < s.size
    · by_cases h8 : k < 8
      · have ht : Hid (hexVal ((bytesOf s).take (k + 1)) = hexStep x s[k]) := by show _ = _; rw [take_snoc' s k hlt, hexVal_snoc, HX.out]
        go_wp2
        obtain ⟨wo, rfl⟩ : ∃ wo : World, wo = wr := ⟨_, rfl⟩
        go_loopw [4, 6] (fun vx vj wq => ∃ j : Nat, j ≤ 16 ∧ vj = .int .i64 j ∧ vx = .int .u32 ((if (∃ i, i < j ∧ fig i = s[k]) then hexStep x s[k] else x : Nat) : Int) ∧ Keep [] w wq) (fun _ vj _ => 16 - (intOf vj).toNat)
        case atStart => exact ⟨0, by omega, rfl, by simp, hkeep⟩
        case round =>
          obtain ⟨j, hj, rfl, rfl, hkq⟩ := hrel
          obtain ⟨y, hy⟩ : ∃ y : Nat, y = (if (∃ i, i < j ∧ fig i = s[k]) then hexStep x s[k] else x) := ⟨_, rfl⟩
          rw [← hy]
          have HY := Lib.hid hy
          have hyl : y < 4294967296 := by
            rw [hy]; split
            · rw [← ht.out]; exact hexVal_lt _ _ rfl
            · exact hxl
          clear hy
          by_cases hj16 : j < 16
          · have hidx := fun W => run_index_figs (P := Try.prog) Try.underlying9 .i64 j hj16 W
            by_cases he : fig j = s[k]
            · have hyx : y = x := by
                rw [HY.out, if_neg]
                rintro ⟨i, hi, hi2⟩
                have := fig_inj i j (by omega) hj16 (by rw [hi2, he])
                omega
              have hq : Hid (hexStep x s[k] = (16 * x + j) % 4294967296) := show _ = _ from hexStep_some (figVal_is hj16 he)
              have hif : Hid ((if (∃ i, i < j + 1 ∧ fig i = s[k]) then hexStep x s[k] else x) = (16 * y + j) % 4294967296) := by
                show _ = _
                rw [if_pos ⟨j, by omega, he⟩, hq.out, hyx]
              have hb : (((fig j).toNat : Int) == (s[k].toNat : Int)) = true := by rw [he]; simp
              clear he hyx
              go_wp2
              go_quiet (fail)
              go_wp2
              go_roundw
              case rel => exact ⟨j + 1, by omega, by go_num, by rw [hif.out]; congr 1; omega, hkq.drewN _⟩
              case measure => simp [intOf] <;> omega
            · have hif : Hid ((if (∃ i, i < j + 1 ∧ fig i = s[k]) then hexStep x s[k] else x) = y) := by
                show _ = _
                rw [HY.out]
                congr 1
                apply propext
                constructor
                · rintro ⟨i, hi, hi2⟩
                  rcases Nat.lt_or_ge i j with h | h
                  · exact ⟨i, h, hi2⟩
                  · obtain rfl : i = j := by omega
                    exact absurd hi2 he
                · rintro ⟨i, hi, hi2⟩; exact ⟨i, by omega, hi2⟩
              have hb : (((fig j).toNat : Int) == (s[k].toNat : Int)) = false := by
                rw [← Bool.not_eq_true, beq_iff_eq]
                exact fun e => he (UInt8.toNat_inj.1 (by omega))
              clear he
              go_wp2
              go_quiet (fail)
              go_wp2
              go_roundw
              case rel => exact ⟨j + 1, by omega, by go_num, by rw [hif.out], hkq.drewN _⟩
              case measure => simp [intOf] <;> omega
          · have hfin : Hid (y = hexStep x s[k]) := by
              show _ = _
              rw [HY.out]
              split
              · rfl
              · rename_i hno
                rcases hv : figVal s[k] with _ | i
                · rw [hexStep_none hv]
                · obtain ⟨h1, h2⟩ := figVal_some hv
                  exact absurd ⟨i, by omega, h2⟩ hno
            go_wp2
            go_roundw
            case rel => exact ⟨k + 1, by omega, by omega, by go_num, by rw [ht.out, hfin.out], hkq⟩
            case measure => simp [intOf] <;> omega
      · have H8 : (bytesOf s).take k = (bytesOf s).take 8 := by rw [show k = 8 by omega]
        rw [H8] at HX
        go_wp2_with fail
        refine (rword_any x _ hxl).mono ?_
        rintro e w' ⟨S, rfl, hS, hk'⟩
        have hbq := toList_beq S s
        rw [hS] at hbq
        by_cases hR : hexL x = bytesOf s
        · have hf : Hid (readWR (bytesOf s) = (x, 0)) := by show _ = _; unfold readWR; rw [← HX.out, if_pos hR]
          have hd : (S.toList == s.toList) = true := by rw [hbq]; simp [hR]
          clear hR hbq hS
          go_wp2
          go_ret2
          exact ⟨by rw [hf.out]; rfl, hkeep.then hk'⟩
        · have hf : Hid (readWR (bytesOf s) = (0, 11)) := by show _ = _; unfold readWR; rw [← HX.out, if_neg hR]
          have hd : (S.toList == s.toList) = false := by rw [hbq]; simp [hR]
          clear hR hbq hS
          go_wp2
          go_ret2
          exact ⟨by rw [hf.out]; rfl, hkeep.then hk'⟩
    · have H8 : (bytesOf s).take k = (bytesOf s).take 8 := by rw [List.take_of_length_le (by rw [bytesOf_len]; omega), List.take_of_length_le (by rw [bytesOf_len]; omega)]
      rw [H8] at HX
      go_wp2_with fail
      refine (rword_any x _ hxl).mono ?_
      rintro e w' ⟨S, rfl, hS, hk'⟩
      have hbq := toList_beq S s
      rw [hS] at hbq
      by_cases hR : hexL x = bytesOf s
      · have hf : Hid (readWR (bytesOf s) = (x, 0)) := by show _ = _; unfold readWR; rw [← HX.out, if_pos hR]
        have hd : (S.toList == s.toList) = true := by rw [hbq]; simp [hR]
        clear hR hbq hS
        go_wp2
        go_ret2
        exact ⟨by rw [hf.out]; rfl, hkeep.then hk'⟩
      · have hf : Hid (readWR (bytesOf s) = (0, 11)) := by show _ = _; unfold readWR; rw [← HX.out, if_neg hR]
        have hd : (S.toList == s.toList) = false := by rw [hbq]; simp [hR]
        clear hR hbq hS
        go_wp2
        go_ret2
        exact ⟨by rw [hf.out]; rfl, hkeep.then hk'⟩

set_option maxRecDepth 100000 in
set_option maxHeartbeats 1000000 in
theorem readWord_any (s : ByteArray) (w : World) (hs : s.size ≤ maxLen) :
    Calls Try.prog 83 #[.string s] w fun e w' => e = .returned (.tuple #[.int .u32 ((readWP (bytesOf s)).1 : Int), .int .i64 (readWP (bytesOf s)).2]) ∧ Keep [] w w' := by
  unfold maxLen at hs
  by_cases h8 : s.size = 8
  · have hL : Hid ((bytesOf s).length = 8) := (bytesOf_len s).trans h8
    have hb1 : ((s.size : Int) != 8) = false := by simp; omega
    have h9 : s.size ≤ 8 := by omega
    have h10 : 8 ≤ s.size := by omega
    clear h8
    go_enter Try.func83, Try.ntmps83
    go_wp2
    go_step3
    go_wp2
    go_step3
    go_wp2
    go_loopw [4, 12] (fun vx vi wr => ∃ k : Nat, k ≤ 8 ∧ vi = .int .i64 k ∧ vx = .int .u32 (hexVal ((bytesOf s).take k) : Nat) ∧ allFig ((bytesOf s).take k) = true ∧ Keep [] w wr) (fun _ vi _ => 8 - (intOf vi).toNat)
    case atStart => exact ⟨0, by omega, rfl, rfl, rfl, Keep.refl _ _⟩
    case round =>
      obtain ⟨k, hk, rfl, rfl, hall, hkeep⟩ := hrel
      obtain ⟨x, hx⟩ : ∃ x, x = hexVal ((bytesOf s).take k) := ⟨_, rfl⟩
      have HA := Lib.hid hall
      have HX := Lib.hid hx
      rw [← hx]
      by_cases hlt : k < 8
      · have hks : k < s.size := by omega
        have hxp : x * 16 + 16 ≤ 4294967296 := by
          have h1 := hexVal_pow k ((bytesOf s).take k) (by rw [List.length_take, hL.out]; omega) (by omega)
          have h2 : 16 ^ k ≤ 16 ^ 7 := Nat.pow_le_pow_right (by decide) (by omega)
          rw [hx]; omega
        have ht : Hid (hexVal ((bytesOf s).take (k + 1)) = hexStep x s[k]) := by show _ = _; rw [take_snoc' s k hks, hexVal_snoc, HX.out]
        have hfa : Hid (allFig ((bytesOf s).take (k + 1)) = (figVal s[k]).isSome) := by show _ = _; rw [take_snoc' s k hks, allFig_snoc, hall]; rfl
        clear hx hall
        go_wp2
        obtain ⟨wo, rfl⟩ : ∃ wo : World, wo = wr := ⟨_, rfl⟩
        go_loopw [4, 15] (fun vx vj wq => ∃ j : Nat, j ≤ 16 ∧ vj = .int .i64 j ∧ vx = .int .u32 x ∧ (∀ i, i < j → fig i ≠ s[k]) ∧ Keep [] w wq) (fun _ vj _ => 16 - (intOf vj).toNat)
        case atStart => exact ⟨0, by omega, rfl, rfl, fun i hi => by omega, hkeep⟩
        case round =>
          obtain ⟨j, hj, rfl, rfl, hno, hkq⟩ := hrel
          have HN := Lib.hid hno
          clear hno
          by_cases hj16 : j < 16
          · have hidx := fun W => run_index_figs (P := Try.prog) Try.underlying9 .i64 j hj16 W
            by_cases he : fig j = s[k]
            · have hsome := figVal_is hj16 he
              have hq : Hid (hexStep x s[k] = 16 * x + j) := by show _ = _; rw [hexStep_some hsome]; omega
              have hf2 : Hid (allFig ((bytesOf s).take (k + 1)) = true) := by show _ = _; rw [hfa.out, hsome]; rfl
              have hb : (((fig j).toNat : Int) == (s[k].toNat : Int)) = true := by rw [he]; simp
              have hor := u32_or_nat (x * 16) j (by omega) (by omega)
              rw [nat_join 4 (x * 16) j (by omega) (by omega), show ((x * 16 : Nat) : Int) = (x : Int) * 16 from by omega] at hor
              clear he hsome
              go_wp2
              go_quiet (fail)
              go_wp2
              go_roundw
              case rel => exact ⟨k + 1, by omega, by go_num, by rw [ht.out, hq.out]; congr 1; omega, hf2.out, hkq.drewN _⟩
              case measure => simp [intOf] <;> omega
            · have hb : (((fig j).toNat : Int) == (s[k].toNat : Int)) = false := by
                rw [← Bool.not_eq_true, beq_iff_eq]
                exact fun e => he (UInt8.toNat_inj.1 (by omega))
              have HE := Lib.hid he
              clear he
              go_wp2
              go_quiet (fail)
              go_wp2
              go_roundw
              case rel => exact ⟨j + 1, by omega, by go_num, rfl, fun i hi => by
                rcases Nat.lt_or_ge i j with h | h
                · exact HN.out i h
                · obtain rfl : i = j := by omega
                  exact HE.out, hkq.drewN _⟩
              case measure => simp [intOf] <;> omega
          · have hbad : Hid (readWP (bytesOf s) = (0, 11)) := by
              show _ = _
              unfold readWP
              rw [if_neg]
              rintro ⟨_, h⟩
              have h2 : allFig ((bytesOf s).take (k + 1)) = true := by
                unfold allFig at *
                rw [List.all_eq_true] at *
                exact fun x hx => h x (List.mem_of_mem_take hx)
              rw [hfa.out] at h2
              obtain ⟨i, hi⟩ := Option.isSome_iff_exists.1 h2
              obtain ⟨h3, h4⟩ := figVal_some hi
              exact HN.out i (by omega) h4
            go_wp2
            rw [Exit.noGoto_ret]
            go_ret2
            exact ⟨by rw [hbad.out]; rfl, hkq⟩
      · have hf3 : Hid (readWP (bytesOf s) = (x, 0)) := by
          have h1 : (bytesOf s).take k = bytesOf s := List.take_of_length_le (by rw [hL.out]; omega)
          rw [h1] at hall hx
          show _ = _
          unfold readWP
          rw [if_pos ⟨hL.out, hall⟩, hx]
        clear hx hall
        go_wp2
        rw [Exit.noGoto_ret]
        go_ret2
        exact ⟨by rw [hf3.out]; rfl, hkeep⟩
  · have hf : Hid (readWP (bytesOf s) = (0, 11)) := by
      show _ = _
      unfold readWP; rw [if_neg]; rw [bytesOf_len]; exact fun h => h8 h.1
    have hb1 : ((s.size : Int) != 8) = true := by simp; omega
    clear h8
    go_enter Try.func83, Try.ntmps83
    go_wp2
    go_step3
    go_wp2
    rw [Exit.noGoto_ret]
    go_ret2
    exact ⟨by rw [hf.out]; rfl, Keep.refl _ _⟩
end Go.Proofs.Ytoepkhkaifgddaa
