/- The document's pieces and lines, and whether two rows of texts are the same; walked. -/
import Derived.Test.YtoepkhkaifgddaaDigLns
namespace Go.Proofs.Ytoepkhkaifgddaa
open Go.RowKit

structure OwnL (w0 w : World) (V : Value) (l : List ByteArray) : Prop where
  row : w.ownsRow w0.heap.size 9 1 V l.length (strs l)
  keep : Keep [] w0 w
theorem OwnL.nil (w : World) : OwnL w w (.slice none 0 0) [] := ⟨World.ownsRow_nil _ _ _ _, Keep.refl _ _⟩
theorem OwnL.ret {w0 w : World} {V : Value} {l : List ByteArray} (h : OwnL w0 w V l) : RetStrs w0 l (.returned V) w := by
  obtain ⟨A, c, rfl⟩ := own_shape h.row
  exact ⟨A, c, rfl, h.row, h.keep⟩
theorem OwnL.app {w0 w w' : World} {V V' : Value} {l : List ByteArray} {a : ByteArray} (h : OwnL w0 w V l) (k : Keep V.ownBlock.toList w w') (h' : w'.ownsRow w0.heap.size 9 1 V' (l.length + 1) (strs l ++ [.string a])) : OwnL w0 w' V' (l ++ [a]) :=
  ⟨by simpa [strs] using h', h.keep.trans k (fun x hx hlt => by have := (h.row.lt x (by simpa using hx)).1; omega)⟩
theorem cutHash_size (t : ByteArray) : (cutHash t).size ≤ t.size := by
  unfold cutHash
  split
  · rw [ByteArray.size_extract]; omega
  · exact Nat.le_refl _

set_option maxRecDepth 100000 in
set_option maxHeartbeats 1000000 in
theorem cut_any (t : ByteArray) (w : World) (hs : t.size ≤ 1000000) : Calls Try.prog 72 #[.string t] w fun e w' => e = .returned (.string (cutHash t)) ∧ w = w' := by
  go_enter Try.func72, Try.ntmps72
  go_wp2
  go_loopw [3] (fun v wr => ∃ c : Nat, c ≤ t.size ∧ v = .int .i64 (c : Int) ∧ w = wr ∧ ∀ i, (h : i < c) → ∀ h2 : i < t.size, isHash (t[i]'h2) = false) (fun v _ => t.size - (intOf v).toNat)
  case atStart => exact ⟨0, Nat.zero_le _, rfl, rfl, fun i h => by omega⟩
  case round =>
    obtain ⟨c, hc2, rfl, rfl, hall⟩ := hrel
    by_cases hlc : c < t.size
    · have hk0 : (0 : Int) ≤ (c : Int) := by omega
      have hk1 : (c : Int) < (t.size : Int) := by omega
      cases hc : isHash t[c]
      · have hb1 : ((t[c].toNat : Int) == 35) = false := (byte_eq t[c] 35).trans hc
        have HA : Hid (∀ i, (h : i < c + 1) → ∀ h2 : i < t.size, isHash (t[i]'h2) = false) := fun i h h2 => by
          by_cases e : i = c
          · subst e; exact hc
          · exact hall i (by omega) h2
        clear hc hall
        go_wp2
        go_roundw
        case rel => exact ⟨c + 1, by omega, by go_num, by trivial, HA.out⟩
        case measure => simp [intOf] <;> omega
      · have hb1 : ((t[c].toNat : Int) == 35) = true := (byte_eq t[c] 35).trans hc
        have he := endOf_hit hlc hc hall
        have HX : Hid (cutHash t = t.extract 0 c) := by show _ = _; unfold cutHash; rw [he, if_pos hlc]
        clear hc hall he
        go_wp2
        go_ret
        exact ⟨by rw [HX.out]; rfl, rfl⟩
    · obtain rfl : c = t.size := by omega
      have he := endOf_none (p := isHash) (t := t) (fun i h => hall i h h)
      have HX : Hid (cutHash t = t) := by show _ = _; unfold cutHash; rw [he, if_neg (by omega)]
      clear hall he
      go_wp2
      go_ret
      exact ⟨by rw [HX.out]; rfl, rfl⟩

set_option maxRecDepth 100000 in
set_option maxHeartbeats 1000000 in
theorem rlines_any (s : ByteArray) (w : World) (hs : s.size ≤ 1000000) : Calls Try.prog 34 #[.string s] w (RetStrs w (linesT s)) := by
  have HLT : Hid (linesA s 0 = linesT s) := (linesS_all s).symm
  go_enter Try.func34, Try.ntmps34
  go_wp2
  go_loopw [3, 4, 5] (fun V va vi wr => ∃ (a i : Nat) (done : List ByteArray), a ≤ i ∧ i ≤ s.size ∧ va = .int .i64 (a : Int) ∧ vi = .int .i64 (i : Int) ∧ OwnL w wr V done ∧ done.length ≤ a ∧ done ++ linesA s a = linesT s ∧ ∀ j, a ≤ j → (h : j < i) → ∀ h2 : j < s.size, isNl (s[j]'h2) = false) (fun _ _ vi _ => s.size + 1 - (intOf vi).toNat)
  case atStart => exact ⟨0, 0, [], Nat.le_refl _, Nat.zero_le _, rfl, rfl, OwnL.nil w, Nat.le_refl _, HLT.out, fun j h1 h2 => by omega⟩
  case round =>
    obtain ⟨a, i, done, hai, his, rfl, rfl, hO, hdl, hdn, hall⟩ := hrel
    by_cases hlt : i < s.size
    · have hk0 : (0 : Int) ≤ (i : Int) := by omega
      have hk1 : (i : Int) < (s.size : Int) := by omega
      cases hc : isNl s[i]
      · have hb1 : ((s[i].toNat : Int) == 10) = false := (byte_eq s[i] 10).trans hc
        have HA : Hid (∀ j, a ≤ j → (h : j < i + 1) → ∀ h2 : j < s.size, isNl (s[j]'h2) = false) := fun j h0 h h2 => by
          by_cases e : j = i
          · subst e; exact hc
          · exact hall j h0 (by omega) h2
        have HDN := Lib.hid hdn
        clear hc hall hdn
        go_wp2
        go_roundw
        case rel => exact ⟨a, i + 1, done, by omega, by omega, rfl, by go_num, hO, hdl, HDN.out, HA.out⟩
        case measure => simp [intOf] <;> omega
      · have hb1 : ((s[i].toNat : Int) == 10) = true := (byte_eq s[i] 10).trans hc
        have he : endOf isNl s a = i := endOf_eq hai (by omega) (.inr ⟨hlt, hc⟩) (fun j h1 h2 => hall j h1 h2 _)
        have hst := linesA_step s a i _ (by omega) he rfl
        rw [← cutHash_eq s a i hai (by omega)] at hst
        have HDN : Hid ((done ++ [cutHash (s.extract a i)]) ++ linesA s (i + 1) = linesT s) := by show _ = _; rw [← hdn, hst]; simp
        have hz : (s.extract a i).size ≤ 1000000 := by rw [ByteArray.size_extract]; omega
        have HC := Lib.hid (cut_any (s.extract a i) wr hz)
        have ha0 : (0 : Int) ≤ (a : Int) := by omega
        have hai' : (a : Int) ≤ (i : Int) := by omega
        have hrow := hO.row
        have hsz := hO.keep.size
        clear hc hall hdn he hst hz
        go_wp2_with (first
          | (go_at_call 72; refine HC.out.mono ?_; clear HC; rintro e w1 ⟨rfl, rfl⟩)
          | (at_builtin; refine wpList_append_one rfl (.tmp 16) (.tmp 22) 59 rfl slice_str hrow rfl rfl (us := [.string (cutHash (s.extract a i))]) rfl (by simp [Value.oneCell']) hsz (by omega) (by unfold maxLen; omega) ?_; intro v' w2 hown1 hgrow1 hat1))
        refine ⟨⟨i + 1, i + 1, done ++ [cutHash (s.extract a i)], Nat.le_refl _, by omega, by go_num, by go_num, hO.app hgrow1 hown1, by simp; omega, HDN.out, fun j h1 h2 => by omega⟩, ?_⟩
        simp [intOf] <;> omega
    · obtain rfl : i = s.size := by omega
      by_cases ha : a < s.size
      · have he : endOf isNl s a = s.size := endOf_eq (by omega) (Nat.le_refl _) (.inl rfl) (fun j h1 h2 => hall j h1 h2 _)
        have hst := linesA_step s a s.size _ ha he rfl
        rw [← cutHash_eq s a s.size (by omega) (Nat.le_refl _), linesA_end s (s.size + 1) (by omega)] at hst
        have HDN : Hid (done ++ [cutHash (s.extract a s.size)] = linesT s) := by show _ = _; rw [← hdn, hst]
        have hz : (s.extract a s.size).size ≤ 1000000 := by rw [ByteArray.size_extract]; omega
        have HC := Lib.hid (cut_any (s.extract a s.size) wr hz)
        have ha0 : (0 : Int) ≤ (a : Int) := by omega
        have hal : (a : Int) < (s.size : Int) := by omega
        have hal' : (a : Int) ≤ (s.size : Int) := by omega
        have hrow := hO.row
        have hsz := hO.keep.size
        clear hall hdn he hst hz
        go_wp2_with (first
          | (go_at_call 72; refine HC.out.mono ?_; clear HC; rintro e w1 ⟨rfl, rfl⟩)
          | (at_builtin; refine wpList_append_one rfl (.tmp 30) (.tmp 35) 59 rfl slice_str hrow rfl rfl (us := [.string (cutHash (s.extract a s.size))]) rfl (by simp [Value.oneCell']) hsz (by omega) (by unfold maxLen; omega) ?_; intro v' w2 hown1 hgrow1 hat1))
        go_ret
        have := (hO.app hgrow1 hown1).ret
        rw [HDN.out] at this
        exact this
      · have HDN : Hid (done = linesT s) := by show _ = _; rw [← hdn, linesA_end s a (by omega), List.append_nil]
        obtain rfl : a = s.size := by omega
        have HR := Lib.hid hO.ret
        clear hall hdn hO
        go_wp2
        go_ret
        rw [← HDN.out]
        exact HR.out

set_option maxRecDepth 100000 in
set_option maxHeartbeats 1000000 in
theorem rpieces_any (s : ByteArray) (w : World) (hs : s.size ≤ 1000000) : Calls Try.prog 35 #[.string s] w (RetStrs w (piecesOf s)) := by
  go_enter Try.func35, Try.ntmps35
  go_wp2
  go_loopw [3, 4] (fun V vi wr => ∃ i : Nat, i ≤ s.size ∧ vi = .int .i64 (i : Int) ∧ OwnL w wr V (rpAt s i) ∧ (rpAt s i).length ≤ i) (fun _ vi _ => s.size + 1 - (intOf vi).toNat)
  case atStart => exact ⟨0, Nat.zero_le _, rfl, OwnL.nil w, Nat.le_refl _⟩
  case round =>
    obtain ⟨i, his, rfl, hO, hln⟩ := hrel
    by_cases hlt : i < s.size
    · have hk0 : (0 : Int) ≤ (i : Int) := by omega
      have hk1 : (i : Int) < (s.size : Int) := by omega
      cases hc : isSp s[i]
      · have hb1 : ((s[i].toNat : Int) == 32) = false := (byte_eq s[i] 32).trans hc
        have hbl : isBlank s i = false := by rw [isBlank_sp hlt]; exact hc
        cases hf : (scan s i).2 with
        | some a =>
          obtain ⟨hai, hrun⟩ := scan_run i a hf
          obtain ⟨m, rfl⟩ : ∃ m, i = m + 1 := ⟨i - 1, by omega⟩
          have hm : isSp (s[m]'(by omega)) = false := by rw [← isBlank_sp (by omega)]; exact hrun m (by omega) (by omega)
          have hb2 : (((s[m]'(by omega)).toNat : Int) != 32) = true := by
            have := (byte_eq (s[m]'(by omega)) 32).trans hm
            simpa [bne] using this
          have HS := Lib.hid (rp_same hlt (.inr (by rw [hf]; rfl)))
          have hm0 : (0 : Int) ≤ (m : Int) := by omega
          have hm1 : (m : Int) < (s.size : Int) := by omega
          have hgt : (0 : Int) < (m : Int) + 1 := by omega
          clear hc hbl hf hrun hm
          go_wp2
          refine ⟨⟨m + 1 + 1, by omega, by go_num, by rw [HS.out]; exact hO, by rw [HS.out]; omega⟩, ?_⟩
          simp [intOf] <;> omega
        | none =>
          have HN := Lib.hid (rp_new hbl hf)
          rcases (scan_none i).1 hf with rfl | ⟨m, rfl, hmb⟩
          · clear hc hbl hf
            go_wp2
            obtain ⟨wo, hwo⟩ : ∃ wo, wr = wo := ⟨_, rfl⟩
            rw [hwo] at hO ⊢
            clear hwo
            go_loopw [5] (fun v5 wr => ∃ e : Nat, 0 ≤ e ∧ e ≤ s.size ∧ v5 = .int .i64 (e : Int) ∧ wo = wr ∧ ∀ j, 0 ≤ j → (h : j < e) → ∀ h2 : j < s.size, isSp (s[j]'h2) = false) (fun v _ => s.size - (intOf v).toNat)
            case atStart => exact ⟨0, Nat.le_refl _, by omega, by first | rfl | go_num, rfl, fun j h1 h2 => by omega⟩
            case round =>
              obtain ⟨e, hie, hes, rfl, rfl, hall⟩ := hrel
              by_cases hle : e < s.size
              · have hk00 : (0 : Int) ≤ (e : Int) := by omega
                have hk11 : (e : Int) < (s.size : Int) := by omega
                cases hc2 : isSp s[e]
                · have hb3 : ((s[e].toNat : Int) != 32) = true := by
                    have := (byte_eq s[e] 32).trans hc2
                    simpa [bne] using this
                  have HA : Hid (∀ j, 0 ≤ j → (h : j < e + 1) → ∀ h2 : j < s.size, isSp (s[j]'h2) = false) := fun j h0 h h2 => by
                    by_cases q : j = e
                    · subst q; exact hc2
                    · exact hall j h0 (by omega) h2
                  clear hc2 hall
                  go_wp2
                  go_roundw
                  case rel => exact ⟨e + 1, by omega, by omega, by go_num, by trivial, HA.out⟩
                  case measure => simp [intOf] <;> omega
                · have hb3 : ((s[e].toNat : Int) != 32) = false := by
                    have := (byte_eq s[e] 32).trans hc2
                    simpa [bne] using this
                  have hend : endOf isSp s (0) = e := endOf_eq (by omega) (by omega) (.inr ⟨hle, hc2⟩) (fun j h1 h2 => hall j h1 h2 _)
                  have HNX : Hid (rpAt s (0 + 1) = rpAt s (0) ++ [s.extract (0) e]) := by show _ = _; rw [HN.out, hend]
                  have hrow := hO.row
                  have hsz := hO.keep.size
                  have hie : ((0 : Nat) : Int) ≤ ((e : Nat) : Int) := by omega
                  have hes : ((e : Nat) : Int) ≤ ((s.size : Nat) : Int) := by omega
                  have hi00 : (0 : Int) ≤ ((0 : Nat) : Int) := by omega
                  have he00 : (0 : Int) ≤ ((e : Nat) : Int) := by omega
                  try clear hc2
                  clear hend hall
                  go_wp2_with (at_builtin; refine wpList_append_one rfl (.tmp 40) (.tmp 45) 59 rfl slice_str hrow rfl rfl (us := [.string (s.extract (0) e)]) rfl (by simp [Value.oneCell']) hsz (by omega) (by unfold maxLen; omega) ?_; intro v' w2 hown1 hgrow1 hat1)
                  refine ⟨⟨0 + 1, by omega, by go_num, by rw [HNX.out]; exact hO.app hgrow1 hown1, by rw [HNX.out, List.length_append, List.length_singleton]; omega⟩, ?_⟩
                  simp [intOf] <;> omega
              · obtain rfl : e = s.size := by omega
                have hend : endOf isSp s (0) = s.size := endOf_eq (by omega) (Nat.le_refl _) (.inl rfl) (fun j h1 h2 => hall j h1 h2 _)
                have HNX : Hid (rpAt s (0 + 1) = rpAt s (0) ++ [s]) := by show _ = _; rw [HN.out, hend, ByteArray.extract_zero_size]
                have hrow := hO.row
                have hsz := hO.keep.size
                have hie : ((0 : Nat) : Int) ≤ ((s.size : Nat) : Int) := by omega
                have hes : ((s.size : Nat) : Int) ≤ ((s.size : Nat) : Int) := by omega
                have hi00 : (0 : Int) ≤ ((0 : Nat) : Int) := by omega
                have he00 : (0 : Int) ≤ ((s.size : Nat) : Int) := by omega
                try clear hc2
                clear hend hall
                go_wp2_with (at_builtin; refine wpList_append_one rfl (.tmp 40) (.tmp 45) 59 rfl slice_str hrow rfl rfl (us := [.string s]) rfl (by simp [Value.oneCell']) hsz (by omega) (by unfold maxLen; omega) ?_; intro v' w2 hown1 hgrow1 hat1)
                refine ⟨⟨0 + 1, by omega, by go_num, by rw [HNX.out]; exact hO.app hgrow1 hown1, by rw [HNX.out, List.length_append, List.length_singleton]; omega⟩, ?_⟩
                simp [intOf] <;> omega
          · have hm : isSp (s[m]'(by omega)) = true := by rw [← isBlank_sp (by omega)]; exact hmb
            have hb2 : (((s[m]'(by omega)).toNat : Int) != 32) = false := by
              have := (byte_eq (s[m]'(by omega)) 32).trans hm
              simpa [bne] using this
            have hm0 : (0 : Int) ≤ (m : Int) := by omega
            have hm1 : (m : Int) < (s.size : Int) := by omega
            have hgt : (0 : Int) < (m : Int) + 1 := by omega
            clear hc hbl hf hm hmb
            go_wp2
            obtain ⟨wo, hwo⟩ : ∃ wo, wr = wo := ⟨_, rfl⟩
            rw [hwo] at hO ⊢
            clear hwo
            go_loopw [5] (fun v5 wr => ∃ e : Nat, m + 1 ≤ e ∧ e ≤ s.size ∧ v5 = .int .i64 (e : Int) ∧ wo = wr ∧ ∀ j, m + 1 ≤ j → (h : j < e) → ∀ h2 : j < s.size, isSp (s[j]'h2) = false) (fun v _ => s.size - (intOf v).toNat)
            case atStart => exact ⟨m + 1, Nat.le_refl _, by omega, by first | rfl | go_num, rfl, fun j h1 h2 => by omega⟩
            case round =>
              obtain ⟨e, hie, hes, rfl, rfl, hall⟩ := hrel
              by_cases hle : e < s.size
              · have hk00 : (0 : Int) ≤ (e : Int) := by omega
                have hk11 : (e : Int) < (s.size : Int) := by omega
                cases hc2 : isSp s[e]
                · have hb3 : ((s[e].toNat : Int) != 32) = true := by
                    have := (byte_eq s[e] 32).trans hc2
                    simpa [bne] using this
                  have HA : Hid (∀ j, m + 1 ≤ j → (h : j < e + 1) → ∀ h2 : j < s.size, isSp (s[j]'h2) = false) := fun j h0 h h2 => by
                    by_cases q : j = e
                    · subst q; exact hc2
                    · exact hall j h0 (by omega) h2
                  clear hc2 hall
                  go_wp2
                  go_roundw
                  case rel => exact ⟨e + 1, by omega, by omega, by go_num, by trivial, HA.out⟩
                  case measure => simp [intOf] <;> omega
                · have hb3 : ((s[e].toNat : Int) != 32) = false := by
                    have := (byte_eq s[e] 32).trans hc2
                    simpa [bne] using this
                  have hend : endOf isSp s (m + 1) = e := endOf_eq (by omega) (by omega) (.inr ⟨hle, hc2⟩) (fun j h1 h2 => hall j h1 h2 _)
                  have HNX : Hid (rpAt s (m + 1 + 1) = rpAt s (m + 1) ++ [s.extract (m + 1) e]) := by show _ = _; rw [HN.out, hend]
                  have hrow := hO.row
                  have hsz := hO.keep.size
                  have hie : ((m + 1 : Nat) : Int) ≤ ((e : Nat) : Int) := by omega
                  have hes : ((e : Nat) : Int) ≤ ((s.size : Nat) : Int) := by omega
                  have hi00 : (0 : Int) ≤ ((m + 1 : Nat) : Int) := by omega
                  have he00 : (0 : Int) ≤ ((e : Nat) : Int) := by omega
                  try clear hc2
                  clear hend hall
                  go_wp2_with (at_builtin; refine wpList_append_one rfl (.tmp 40) (.tmp 45) 59 rfl slice_str hrow rfl rfl (us := [.string (s.extract (m + 1) e)]) rfl (by simp [Value.oneCell']) hsz (by omega) (by unfold maxLen; omega) ?_; intro v' w2 hown1 hgrow1 hat1)
                  refine ⟨⟨m + 1 + 1, by omega, by go_num, by rw [HNX.out]; exact hO.app hgrow1 hown1, by rw [HNX.out, List.length_append, List.length_singleton]; omega⟩, ?_⟩
                  simp [intOf] <;> omega
              · obtain rfl : e = s.size := by omega
                have hend : endOf isSp s (m + 1) = s.size := endOf_eq (by omega) (Nat.le_refl _) (.inl rfl) (fun j h1 h2 => hall j h1 h2 _)
                have HNX : Hid (rpAt s (m + 1 + 1) = rpAt s (m + 1) ++ [s.extract (m + 1) s.size]) := by show _ = _; rw [HN.out, hend]
                have hrow := hO.row
                have hsz := hO.keep.size
                have hie : ((m + 1 : Nat) : Int) ≤ ((s.size : Nat) : Int) := by omega
                have hes : ((s.size : Nat) : Int) ≤ ((s.size : Nat) : Int) := by omega
                have hi00 : (0 : Int) ≤ ((m + 1 : Nat) : Int) := by omega
                have he00 : (0 : Int) ≤ ((s.size : Nat) : Int) := by omega
                try clear hc2
                clear hend hall
                go_wp2_with (at_builtin; refine wpList_append_one rfl (.tmp 40) (.tmp 45) 59 rfl slice_str hrow rfl rfl (us := [.string (s.extract (m + 1) s.size)]) rfl (by simp [Value.oneCell']) hsz (by omega) (by unfold maxLen; omega) ?_; intro v' w2 hown1 hgrow1 hat1)
                refine ⟨⟨m + 1 + 1, by omega, by go_num, by rw [HNX.out]; exact hO.app hgrow1 hown1, by rw [HNX.out, List.length_append, List.length_singleton]; omega⟩, ?_⟩
                simp [intOf] <;> omega
      · have hb1 : ((s[i].toNat : Int) == 32) = true := (byte_eq s[i] 32).trans hc
        have HS := Lib.hid (rp_same hlt (.inl (by rw [isBlank_sp hlt]; exact hc)))
        clear hc
        go_wp2
        go_roundw
        case rel => exact ⟨i + 1, by omega, by go_num, by rw [HS.out]; exact hO, by rw [HS.out]; omega⟩
        case measure => simp [intOf] <;> omega
    · obtain rfl : i = s.size := by omega
      have HR := Lib.hid hO.ret
      clear hO
      go_wp2
      go_ret
      rw [← rp_fin s]
      exact HR.out
end Go.Proofs.Ytoepkhkaifgddaa
