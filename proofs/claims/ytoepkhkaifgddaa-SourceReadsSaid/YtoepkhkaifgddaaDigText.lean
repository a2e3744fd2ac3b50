/- digits.Text and the reference's Text, walked: both answer the decimal figures of the number, cut to 0 and 2147483647. No condition. -/
import Derived.Test.YtoepkhkaifgddaaRows
import Derived.Test.YtoepkhkaifgddaaDecRead
import Derived.WalkKit
import Derived.WalkSpells
import Derived.WalkLawsBesides
namespace Go.Proofs.Ytoepkhkaifgddaa
open Go.RowKit

/-- The call answers a text of the bytes l, and has written nothing that was there. -/
def RetStr (w : World) (l : List UInt8) (e : Ending) (w' : World) : Prop := ∃ S : ByteArray, e = .returned (.string S) ∧ bytesOf S = l ∧ Keep [] w w'

set_option maxRecDepth 100000 in
set_option maxHeartbeats 400000 in
theorem rtext_core (n : Int) (N : Nat) (H1 : Clamped n N) (w : World) : Calls Try.prog 42 #[.int .i64 n] w (RetStr w (decL N)) := by
  have hN : N ≤ 2147483647 := by unfold Clamped at H1; omega
  have hconv := fun (W : World) (m : Nat) => run_convert_reads (P := Try.prog) Try.underlying114 Try.underlying5 Try.underlying9 1 (reads_one W 5 (digit m)) (by decide)
  simp only [digit_u8] at hconv
  have hs := Lib.hid (Left.start N)
  have hcv := hconv w N
  rcases H1 with ⟨h1, rfl⟩ | ⟨h1, rfl⟩ | ⟨h1, h2, h3⟩
  · have hc1 : (convert 114 9 (.slice (some ⟨w.heap.size, 0, none⟩) 1 1)).run Try.prog (w.alloc (.cells #[.int .u8 48] 5)) = .ok (strOf [digit 0]) (w.alloc (.cells #[.int .u8 48] 5)) := hcv
    clear hcv
    go_enter Try.func42, Try.ntmps42
    go_wp2
    go_loopw [0, 3] (fun vm vs wr => ∃ (m : Nat) (bs : List UInt8), m ≤ 2147483647 ∧ vm = .int .i64 m ∧ vs = strOf bs ∧ Left 0 m bs ∧ Keep [] w wr) (fun vm _ _ => (intOf vm).toNat)
    case atStart => exact ⟨0 / 10, [digit 0], by omega, by go_num, rfl, hs.out, (Keep.refl _ _).alloc _⟩
    case round =>
      obtain ⟨m, bs, hm, rfl, rfl, hleft, hk⟩ := hrel
      have hcr := hconv wr m
      by_cases hpos : 0 < m
      · have had := fun W => run_add_str (P := Try.prog) 9 [digit m] bs (by have := hleft.len10 (by omega); simp; omega) W
        go_wp2
        go_roundw
        case rel => exact ⟨m / 10, digit m :: bs, by omega, by go_num, rfl, hleft.step hpos, hk.alloc _⟩
        case measure => simp [intOf] <;> omega
      · obtain rfl : m = 0 := by omega
        go_wp2
        go_ret
        exact ⟨_, rfl, by rw [hleft.fin], hk⟩
  · have hc1 : (convert 114 9 (.slice (some ⟨w.heap.size, 0, none⟩) 1 1)).run Try.prog (w.alloc (.cells #[.int .u8 55] 5)) = .ok (strOf [digit 2147483647]) (w.alloc (.cells #[.int .u8 55] 5)) := hcv
    clear hcv
    go_enter Try.func42, Try.ntmps42
    go_wp2
    go_loopw [0, 3] (fun vm vs wr => ∃ (m : Nat) (bs : List UInt8), m ≤ 2147483647 ∧ vm = .int .i64 m ∧ vs = strOf bs ∧ Left 2147483647 m bs ∧ Keep [] w wr) (fun vm _ _ => (intOf vm).toNat)
    case atStart => exact ⟨2147483647 / 10, [digit 2147483647], by omega, by go_num, rfl, hs.out, (Keep.refl _ _).alloc _⟩
    case round =>
      obtain ⟨m, bs, hm, rfl, rfl, hleft, hk⟩ := hrel
      have hcr := hconv wr m
      by_cases hpos : 0 < m
      · have had := fun W => run_add_str (P := Try.prog) 9 [digit m] bs (by have := hleft.len10 (by omega); simp; omega) W
        go_wp2
        go_roundw
        case rel => exact ⟨m / 10, digit m :: bs, by omega, by go_num, rfl, hleft.step hpos, hk.alloc _⟩
        case measure => simp [intOf] <;> omega
      · obtain rfl : m = 0 := by omega
        go_wp2
        go_ret
        exact ⟨_, rfl, by rw [hleft.fin], hk⟩
  · obtain rfl : n = (N : Int) := h3.symm
    go_enter Try.func42, Try.ntmps42
    go_wp2
    go_loopw [0, 3] (fun vm vs wr => ∃ (m : Nat) (bs : List UInt8), m ≤ 2147483647 ∧ vm = .int .i64 m ∧ vs = strOf bs ∧ Left N m bs ∧ Keep [] w wr) (fun vm _ _ => (intOf vm).toNat)
    case atStart => exact ⟨N / 10, [digit N], by omega, by go_num, rfl, hs.out, (Keep.refl _ _).alloc _⟩
    case round =>
      obtain ⟨m, bs, hm, rfl, rfl, hleft, hk⟩ := hrel
      have hcr := hconv wr m
      by_cases hpos : 0 < m
      · have had := fun W => run_add_str (P := Try.prog) 9 [digit m] bs (by have := hleft.len10 (by omega); simp; omega) W
        go_wp2
        go_roundw
        case rel => exact ⟨m / 10, digit m :: bs, by omega, by go_num, rfl, hleft.step hpos, hk.alloc _⟩
        case measure => simp [intOf] <;> omega
      · obtain rfl : m = 0 := by omega
        go_wp2
        go_ret
        exact ⟨_, rfl, by rw [hleft.fin], hk⟩
theorem rtext_any (n : Int) (w : World) : Calls Try.prog 42 #[.int .i64 n] w (RetStr w (decL (clampN n))) := rtext_core n _ (clamped n) w

set_option maxRecDepth 100000 in
set_option maxHeartbeats 1000000 in
theorem text_core (n : Int) (N : Nat) (H1 : Clamped n N) (w : World) : Calls Try.prog 38 #[.int .i64 n] w (RetStr w (decL N)) := by
  have hN : N ≤ 2147483647 := by unfold Clamped at H1; omega
  have hS : SliceOf Try.prog 114 5 1 1 := ⟨Try.underlying114, by kernel_rfl, by decide⟩
  have hs := Lib.hid (Left.start N)
  have hclamp : min (max n 0) 2147483647 = (N : Int) := by unfold Clamped at H1; omega
  have hd := digit_u8 N
  go_enter Try.func38, Try.ntmps38
  have hown0 : Hid ((w.alloc (.cells #[.int .u8 (48 + (N : Int) % 10)] 5)).ownsRow w.heap.size 5 1 (.slice (some ⟨w.heap.size, 0, none⟩) 1 1) [digit N].length (bytesV [digit N])) := by
    have := World.ownsRow_lit (base := w.heap.size) (e := 5) (size := 1) w #[.int .u8 (48 + (N : Int) % 10)] 1 (Nat.le_refl _) (by decide) rfl
    show World.ownsRow _ _ _ _ _ _ _
    simpa [bytesV, hd] using this
  go_wp2
  go_loopw [0, 3] (fun vm vb wr => ∃ (m : Nat) (bs : List UInt8), m ≤ 2147483647 ∧ vm = .int .i64 m ∧ wr.ownsRow w.heap.size 5 1 vb bs.length (bytesV bs) ∧ Left N m bs.reverse ∧ Keep [] w wr ∧ 0 < bs.length) (fun vm _ _ => (intOf vm).toNat)
  case atStart => exact ⟨N / 10, [digit N], by omega, by go_num, hown0.out, hs.out, (Keep.refl _ _).alloc _, by simp⟩
  case round =>
    obtain ⟨m, bs, hm, rfl, hrow, hleft, hk, hne⟩ := hrel
    have hlen := hleft.len10 (by omega)
    rw [List.length_reverse] at hlen
    by_cases hpos : 0 < m
    · have hdm := Lib.hid (digit_u8 m)
      go_wp2_with (at_builtin; refine wpList_append_one rfl (.tmp 20) (.tmp 25) 114 rfl hS hrow rfl rfl (us := [.int .u8 (48 + (m : Int) % 10)]) rfl (by simp [Value.oneCell']) hk.size (by omega) (by unfold maxLen; omega) ?_; intro v' w1 hown1 hk1 hat1)
      go_roundw
      case rel =>
        refine ⟨m / 10, bs ++ [digit m], by omega, by go_num, ?_, by rw [List.reverse_append]; exact hleft.step hpos, hk.trans hk1 (fun x hx hlt => by have := (hrow.lt x (by simpa using hx)).1; omega), by simp⟩
        have e : bytesV (bs ++ [digit m]) = bytesV bs ++ [.int .u8 (48 + (m : Int) % 10)] := by unfold bytesV; rw [List.map_append]; simp [hdm.out]
        rw [e]
        simpa using hown1
      case measure => simp [intOf] <;> omega
    · obtain rfl : m = 0 := by omega
      have hfin := Lib.hid hleft.fin
      clear hleft hown0
      obtain ⟨A, c, rfl⟩ := own_shape hrow
      rcases hrow.2 with ⟨h, h0⟩ | ⟨g, cap, cur, hv, hg, _⟩
      · omega
      injection hv with hA _ hc
      subst hA hc
      go_wp2
      go_loopw [4, 5] (fun vi vk wq => ∃ (i k : Nat) (ys : List UInt8), vi = .int .i64 i ∧ vk = .int .i64 k ∧ Swapped bs ys i k ∧ wq.ownsRow w.heap.size 5 1 (.slice (some ⟨g, 0, none⟩) bs.length c) bs.length (bytesV ys) ∧ Keep [] w wq) (fun _ vk _ => (intOf vk).toNat)
      case atStart => exact ⟨0, bs.length - 1, bs, rfl, by go_num, Swapped.start bs hne, hrow, hk⟩
      case round =>
        obtain ⟨i, k, ys, rfl, rfl, hsw, hrq, hkq⟩ := hrel
        have hys := hsw.1
        have hik1 := hsw.2.1
        by_cases hik : i < k
        · have c1 := hrq.cellAt i (by omega)
          have c2 := hrq.cellAt k (by omega)
          rw [bytesV_at (by omega)] at c1 c2
          have f1 := hrq.frozenAt i
          have f2 := hrq.frozenAt k
          clear hrow
          go_wp2
          go_region
          go_wp2
          go_roundw
          case rel =>
            have o1 := (hrq.stored i (.int .u8 ((ys[k]'(by omega)).toNat : Int))).1
            have o2 := (o1.stored k (.int .u8 ((ys[i]'(by omega)).toNat : Int))).1
            have e : ((bytesV ys).set i (.int .u8 ((ys[k]'(by omega)).toNat : Int))).set k (.int .u8 ((ys[i]'(by omega)).toNat : Int)) = bytesV ((ys.set i (ys[k]'(by omega))).set k (ys[i]'(by omega))) := by
              unfold bytesV; rw [List.map_set, List.map_set]
            rw [e] at o2
            refine ⟨i + 1, k - 1, _, by go_num, by go_num, hsw.step hik (by omega) (by omega), o2, ((hkq.setCell (p := ⟨g, i, none⟩) (fun h => ?_) _).setCell (p := ⟨g, k, none⟩) (fun h => ?_) _).drew⟩
            all_goals (simp only at h; omega)
          case measure => simp [intOf] <;> omega
        · have hcv := run_convert_reads (P := Try.prog) Try.underlying114 Try.underlying5 Try.underlying9 c (Reads.of_own hrq) (by omega)
          have hrev := Lib.hid (hsw.fin (by omega))
          clear hrow
          go_wp2
          go_ret
          exact ⟨_, rfl, by rw [hfin.out, ← hrev.out], hkq⟩
theorem text_any (n : Int) (w : World) : Calls Try.prog 38 #[.int .i64 n] w (RetStr w (decL (clampN n))) := text_core n _ (clamped n) w

end Go.Proofs.Ytoepkhkaifgddaa
