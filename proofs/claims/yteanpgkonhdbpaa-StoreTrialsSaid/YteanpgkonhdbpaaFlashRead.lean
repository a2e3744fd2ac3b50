/- The device's readers, and its small writers, walked. -/
import Derived.Test.YteanpgkonhdbpaaDev
namespace Go.Proofs.Yteanpgkonhdbpaa
open Go.RowKit

section
variable {w : World} {g b1 b2 : Nat} {d : Dev}
theorem DevAt.cells (h : DevAt w g b1 b2 d) : w.cell? ⟨g, 0, none⟩ = some (.int .i64 d.nw) ∧ w.cell? ⟨g, 1, none⟩ = some (.int .i64 d.lim) ∧ w.cell? ⟨g, 2, none⟩ = some (.slice (some ⟨b1, 0, none⟩) d.bits.length d.bits.length) ∧
    w.cell? ⟨g, 3, none⟩ = some (.slice (some ⟨b2, 0, none⟩) d.worn.length d.worn.length) ∧ w.cell? ⟨g, 4, none⟩ = some (.bool d.on) ∧ w.cell? ⟨g, 5, none⟩ = some (.bool d.armed) ∧ w.cell? ⟨g, 6, none⟩ = some (.int .i64 d.left) ∧
    w.cell? ⟨g, 7, none⟩ = some (.int .u32 (d.seed : Int)) ∧ w.cell? ⟨g, 8, none⟩ = some (.int .i64 d.ops) :=
  ⟨h.dev.cell 0, h.dev.cell 1, h.dev.cell 2, h.dev.cell 3, h.dev.cell 4, h.dev.cell 5, h.dev.cell 6, h.dev.cell 7, h.dev.cell 8⟩
theorem DevAt.bit (h : DevAt w g b1 b2 d) {i : Nat} (hi : i < d.bits.length) : w.cell? ⟨b1, i, none⟩ = some (.int .u32 ((d.bits.getD i 0 : Nat) : Int)) := by
  rw [h.bits.cell i]; simp [hi]
theorem DevAt.wear (h : DevAt w g b1 b2 d) {i : Nat} (hi : i < d.worn.length) : w.cell? ⟨b2, i, none⟩ = some (.int .i64 ((d.worn.getD i 0 : Nat) : Int)) := by
  rw [h.worn.cell i]; simp [hi]
theorem DevAt.ne1 (h : DevAt w g b1 b2 d) : g ≠ b1 := h.dev.ne_ h.bits (by decide)
theorem DevAt.ne2 (h : DevAt w g b1 b2 d) : g ≠ b2 := h.dev.ne_ h.worn (by decide)
theorem DevAt.ne3 (h : DevAt w g b1 b2 d) : b1 ≠ b2 := h.bits.ne_ h.worn (by decide)
end
theorem is_cases (d : Dev) (ho : d.Ok) (s q : Int) : (isS d s q = true ∧ atV d s q = ((atS d s q : Nat) : Int) ∧ atS d s q < d.bits.length) ∨ (isS d s q = false ∧ atV d s q = -1) := by
  cases h : isS d s q
  · exact .inr ⟨rfl, by unfold atV; rw [h]; rfl⟩
  · refine .inl ⟨rfl, by unfold atV; rw [h]; rfl, ?_⟩
    have h' := h
    unfold isS at h'
    simp only [decide_eq_true_eq] at h'
    rw [ho.blen]
    unfold atS
    have h1 : s.toNat + 1 ≤ d.ns := by omega
    have h2 := Nat.mul_le_mul_right d.nw h1
    rw [Nat.add_mul] at h2
    omega
theorem bits_le (d : Dev) (ho : d.Ok) : d.bits.length ≤ 65536 := by
  rw [ho.blen]
  exact Nat.le_trans (Nat.mul_le_mul ho.ns2 ho.nw2) (by decide)

set_option maxRecDepth 100000 in
set_option maxHeartbeats 600000 in
theorem fat_any (g b1 b2 : Nat) (d : Dev) (s q : Int) (w : World) (hd : DevAt w g b1 b2 d) (ho : d.Ok) :
    Calls Try.prog 101 #[.pointer (some ⟨g, 0, none⟩), .int .i64 s, .int .i64 q] w fun e w' => e = .returned (.int .i64 (atV d s q)) ∧ w = w' := by
  obtain ⟨c0, _, _, c3, _⟩ := hd.cells
  rw [ho.wlen] at c3
  have h1 := ho.ns2
  have h2 := ho.nw2
  have HI : Hid (isS d s q = decide (0 ≤ s ∧ s < d.ns ∧ 0 ≤ q ∧ q < d.nw)) := show _ = _ from rfl
  have HA : Hid (atS d s q = s.toNat * d.nw + q.toNat) := show _ = _ from rfl
  clear hd ho
  unfold atV
  generalize d.ns = ns at *
  generalize d.nw = nw at *
  have hcase : s < 0 ∨ (0 ≤ s ∧ (ns : Int) ≤ s) ∨ (0 ≤ s ∧ s < ns ∧ q < 0) ∨ (0 ≤ s ∧ s < ns ∧ 0 ≤ q ∧ (nw : Int) ≤ q) ∨ (0 ≤ s ∧ s < ns ∧ 0 ≤ q ∧ q < nw) := by omega
  rcases hcase with e1 | ⟨e1, e2⟩ | ⟨e1, e2, e3⟩ | ⟨e1, e2, e3, e4⟩ | ⟨e1, e2, e3, e4⟩
  case' inr.inr.inr.inr =>
    obtain ⟨σ, rfl⟩ : ∃ σ : Nat, s = (σ : Int) := ⟨s.toNat, by omega⟩
    obtain ⟨τ, rfl⟩ : ∃ τ : Nat, q = (τ : Int) := ⟨q.toNat, by omega⟩
    have hp : σ * nw ≤ 65536 := Nat.le_trans (Nat.mul_le_mul (show σ ≤ 64 by omega) h2) (by decide)
    have hpz : (σ : Int) * nw ≤ 65536 := by have h := Int.ofNat_le.2 hp; rw [Int.natCast_mul] at h; exact h
    have hpn : 0 ≤ (σ : Int) * nw := by have h := Int.ofNat_le.2 (Nat.zero_le (σ * nw)); rw [Int.natCast_mul] at h; exact h
    have H2 : Hid ((if isS d (σ : Int) (τ : Int) then (atS d (σ : Int) (τ : Int) : Int) else -1) = (σ : Int) * nw + τ) := by
      show _ = _
      rw [HI.out, if_pos (decide_eq_true (by omega)), HA.out]
      simp
  case' inl | inr.inl | inr.inr.inl | inr.inr.inr.inl =>
    have H2 : Hid ((if isS d s q then (atS d s q : Int) else -1) = -1) := by
      show _ = _
      rw [HI.out, if_neg (fun h => absurd (of_decide_eq_true h) (by omega))]
  all_goals
    rw [H2.out]
    go_enter Try.func101, Try.ntmps101
    go_wp2
    go_ret
    exact ⟨rfl, rfl⟩

set_option maxRecDepth 100000 in
set_option maxHeartbeats 600000 in
theorem fread_any (g b1 b2 : Nat) (d : Dev) (s q : Int) (w : World) (hd : DevAt w g b1 b2 d) (ho : d.Ok) :
    Calls Try.prog 112 #[.pointer (some ⟨g, 0, none⟩), .int .i64 s, .int .i64 q] w fun e w' => e = .returned (.tuple #[.int .u32 ((readS d s q).1 : Int), .int .i64 (readS d s q).2]) ∧ w = w' := by
  obtain ⟨_, _, c2, _, c4, _⟩ := hd.cells
  have hc := Lib.hid (fat_any g b1 b2 d s q w hd ho)
  have HR : Hid (readS d s q = if d.on = false then (0, 63) else if isS d s q then (d.bits.getD (atS d s q) 0, 0) else (0, 60)) := show _ = _ from rfl
  have hbl := bits_le d ho
  rcases is_cases d ho s q with ⟨hi, hv, hlt⟩ | ⟨hi, hv⟩
  · have hcell := hd.bit hlt
    rw [hi] at HR
    have HV := Lib.hid hv
    clear hv hi hd ho
    generalize atS d s q = i at *
    cases hon : d.on
    · have HR2 : Hid (readS d s q = (0, 63)) := by show _ = _; rw [HR.out, if_pos hon]
      rw [hon] at c4
      rw [HR2.out]
      clear HR hon
      go_enter Try.func112, Try.ntmps112
      go_wp2_with fail
      refine hc.out.mono ?_
      rintro e w' ⟨rfl, rfl⟩
      rw [HV.out]
      go_wp2
      go_ret2
      exact ⟨rfl, rfl⟩
    · have HR2 : Hid (readS d s q = (d.bits.getD i 0, 0)) := by show _ = _; rw [HR.out, if_neg (by simp [hon])]; rfl
      rw [hon] at c4
      rw [HR2.out]
      clear HR hon
      generalize d.bits.getD i 0 = b at *
      go_enter Try.func112, Try.ntmps112
      go_wp2_with fail
      refine hc.out.mono ?_
      rintro e w' ⟨rfl, rfl⟩
      rw [HV.out]
      go_wp2
      go_ret2
      exact ⟨rfl, rfl⟩
  · rw [hi] at HR
    have HV := Lib.hid hv
    clear hv hi hd ho
    cases hon : d.on
    · have HR2 : Hid (readS d s q = (0, 63)) := by show _ = _; rw [HR.out, if_pos hon]
      rw [hon] at c4
      rw [HR2.out]
      clear HR hon
      go_enter Try.func112, Try.ntmps112
      go_wp2_with fail
      refine hc.out.mono ?_
      rintro e w' ⟨rfl, rfl⟩
      rw [HV.out]
      go_wp2
      go_ret2
      exact ⟨rfl, rfl⟩
    · have HR2 : Hid (readS d s q = (0, 60)) := by show _ = _; rw [HR.out, if_neg (by simp [hon])]; rfl
      rw [hon] at c4
      rw [HR2.out]
      clear HR hon
      go_enter Try.func112, Try.ntmps112
      go_wp2_with fail
      refine hc.out.mono ?_
      rintro e w' ⟨rfl, rfl⟩
      rw [HV.out]
      go_wp2
      go_ret2
      exact ⟨rfl, rfl⟩

def wornS (d : Dev) (s : Int) : Nat := if 0 ≤ s ∧ s < d.ns then d.worn.getD s.toNat 0 else 0
set_option maxRecDepth 100000 in
set_option maxHeartbeats 600000 in
theorem fworn_any (g b1 b2 : Nat) (d : Dev) (s : Int) (w : World) (hd : DevAt w g b1 b2 d) (ho : d.Ok) :
    Calls Try.prog 77 #[.pointer (some ⟨g, 0, none⟩), .int .i64 s] w fun e w' => e = .returned (.int .i64 (wornS d s : Int)) ∧ w = w' := by
  obtain ⟨_, _, _, c3, _⟩ := hd.cells
  have hn := ho.ns2
  have HR : Hid (wornS d s = if 0 ≤ s ∧ s < d.ns then d.worn.getD s.toNat 0 else 0) := show _ = _ from rfl
  have hw := ho.wlen
  rw [hw] at c3
  have hcase : s < 0 ∨ (0 ≤ s ∧ (d.ns : Int) ≤ s) ∨ (0 ≤ s ∧ s < d.ns) := by omega
  rcases hcase with h | ⟨h, h'⟩ | ⟨h, h'⟩
  · have HR2 : Hid (wornS d s = 0) := by show _ = _; rw [HR.out, if_neg (by omega)]
    rw [HR2.out]
    clear HR hd ho hw
    generalize d.ns = ns at *
    go_enter Try.func77, Try.ntmps77
    go_wp2
    go_ret
    exact ⟨rfl, rfl⟩
  · have HR2 : Hid (wornS d s = 0) := by show _ = _; rw [HR.out, if_neg (by omega)]
    rw [HR2.out]
    clear HR hd ho hw
    generalize d.ns = ns at *
    go_enter Try.func77, Try.ntmps77
    go_wp2
    go_ret
    exact ⟨rfl, rfl⟩
  · obtain ⟨k, rfl⟩ : ∃ k : Nat, s = (k : Int) := ⟨s.toNat, by omega⟩
    have hc := hd.wear (i := k) (by omega)
    have HR2 : Hid (wornS d k = d.worn.getD k 0) := by show _ = _; rw [HR.out, if_pos (by omega)]; rfl
    rw [HR2.out]
    clear HR hd ho hw
    generalize d.worn.getD k 0 = x at *
    generalize d.ns = ns at *
    go_enter Try.func77, Try.ntmps77
    go_wp2
    go_ret
    exact ⟨rfl, rfl⟩

set_option maxRecDepth 100000 in
theorem fon_any (g b1 b2 : Nat) (d : Dev) (w : World) (hd : DevAt w g b1 b2 d) :
    Calls Try.prog 21 #[.pointer (some ⟨g, 0, none⟩)] w fun e w' => e = .returned (.bool d.on) ∧ w = w' := by
  obtain ⟨_, _, _, _, c4, _⟩ := hd.cells
  clear hd
  generalize d.on = x at *
  go_enter Try.func21, Try.ntmps21
  go_wp2
  go_ret
  exact ⟨rfl, rfl⟩
set_option maxRecDepth 100000 in
theorem fwords_any (g b1 b2 : Nat) (d : Dev) (w : World) (hd : DevAt w g b1 b2 d) :
    Calls Try.prog 61 #[.pointer (some ⟨g, 0, none⟩)] w fun e w' => e = .returned (.int .i64 d.nw) ∧ w = w' := by
  obtain ⟨c0, _⟩ := hd.cells
  clear hd
  generalize d.nw = x at *
  go_enter Try.func61, Try.ntmps61
  go_wp2
  go_ret
  exact ⟨rfl, rfl⟩
set_option maxRecDepth 100000 in
theorem flimit_any (g b1 b2 : Nat) (d : Dev) (w : World) (hd : DevAt w g b1 b2 d) :
    Calls Try.prog 78 #[.pointer (some ⟨g, 0, none⟩)] w fun e w' => e = .returned (.int .i64 d.lim) ∧ w = w' := by
  obtain ⟨_, c1, _⟩ := hd.cells
  clear hd
  generalize d.lim = x at *
  go_enter Try.func78, Try.ntmps78
  go_wp2
  go_ret
  exact ⟨rfl, rfl⟩
set_option maxRecDepth 100000 in
theorem fsectors_any (g b1 b2 : Nat) (d : Dev) (w : World) (hd : DevAt w g b1 b2 d) (ho : d.Ok) :
    Calls Try.prog 60 #[.pointer (some ⟨g, 0, none⟩)] w fun e w' => e = .returned (.int .i64 d.ns) ∧ w = w' := by
  obtain ⟨_, _, _, c3, _⟩ := hd.cells
  rw [ho.wlen] at c3
  clear hd ho
  generalize d.ns = x at *
  go_enter Try.func60, Try.ntmps60
  go_wp2
  go_ret
  exact ⟨rfl, rfl⟩

theorem Blk.cast {w : World} {g : Nat} {t : TypeId} {cs cs' : Array Value} (h : Blk w g t cs) (e : cs = cs') : Blk w g t cs' := e ▸ h
theorem DevAt.swap {w w' : World} {g b1 b2 : Nat} {d d' : Dev} {F : List Nat} (h : DevAt w g b1 b2 d) (hk : Keep F w w') (h1 : b1 ∉ F) (h2 : b2 ∉ F) (e1 : d'.bits = d.bits) (e2 : d'.worn = d.worn)
    (hb : Blk w' g 112 (devV d' b1 b2)) : DevAt w' g b1 b2 d' := ⟨hb, by rw [e1]; exact h.bits.keep hk h1, by rw [e2]; exact h.worn.keep hk h2⟩

set_option maxRecDepth 100000 in
set_option maxHeartbeats 600000 in
theorem fpower_any (g b1 b2 : Nat) (d : Dev) (b : Bool) (w : World) (hd : DevAt w g b1 b2 d) :
    Calls Try.prog 15 #[.pointer (some ⟨g, 0, none⟩), .bool b] w fun e w' => e = .returned (.tuple #[]) ∧ DevAt w' g b1 b2 (powerS d b) ∧ Keep [g] w w' := by
  obtain ⟨_, _, _, _, c4, _⟩ := hd.cells
  have hf := hd.dev.frozen 4
  have HD := Lib.hid hd
  have H1 := Lib.hid hd.ne1
  have H2 := Lib.hid hd.ne2
  clear hd
  go_enter Try.func15, Try.ntmps15
  go_wp2
  go_end0
  have HK : Keep [g] w (w.setCell ⟨g, 4, none⟩ (.bool b)) := keep_set w g 4 _
  exact ⟨rfl, HD.out.swap HK (by simp; exact fun h => H1.out h.symm) (by simp; exact fun h => H2.out h.symm) rfl rfl (HD.out.dev.set_ 4 _), HK⟩

abbrev cutV (n : Int) (s : Nat) : Value := .agg #[.int .i64 n, .int .u32 (s : Int)]
set_option maxRecDepth 100000 in
set_option maxHeartbeats 600000 in
theorem farm_any (g b1 b2 : Nat) (d : Dev) (n : Int) (s : Nat) (w : World) (hd : DevAt w g b1 b2 d) :
    Calls Try.prog 19 #[.pointer (some ⟨g, 0, none⟩), cutV n s] w fun e w' => e = .returned (.tuple #[]) ∧ DevAt w' g b1 b2 (armS d n s) ∧ Keep [g] w w' := by
  obtain ⟨_, _, _, _, c4, c5, c6, c7, _⟩ := hd.cells
  have f5 := hd.dev.frozen 5
  have f6 := hd.dev.frozen 6
  have f7 := hd.dev.frozen 7
  have hg := hd.dev.lt
  have HD := Lib.hid hd
  have H1 := Lib.hid hd.ne1
  have H2 := Lib.hid hd.ne2
  clear hd
  rcases Int.lt_or_le n 0 with h | h
  · have HS : Hid (armS d n s = { d with armed := true, left := 0, seed := s }) := by show _ = _; unfold armS; rw [show n.toNat = 0 by omega]
    rw [HS.out]
    go_enter Try.func19, Try.ntmps19
    go_wp2
    go_end0
    refine ⟨rfl, HD.out.swap (F := [g]) ?_ (by simp; exact fun h => H1.out h.symm) (by simp; exact fun h => H2.out h.symm) rfl rfl ?_, ?_⟩
    · (repeat (first | with_reducible (refine Keep.drew ?_) | with_reducible (refine Keep.drewN ?_ _) | with_reducible (refine Keep.setCell ?_ (by simp) _) | with_reducible (refine Keep.alloc ?_ _) | with_reducible (exact Keep.refl _ _)))
    · exact Blk.cast ((((HD.out.dev.set_ 6 _).set_ 7 _).set_ 5 _).alloc _) rfl
    · (repeat (first | with_reducible (refine Keep.drew ?_) | with_reducible (refine Keep.drewN ?_ _) | with_reducible (refine Keep.setCell ?_ (by simp) _) | with_reducible (refine Keep.alloc ?_ _) | with_reducible (exact Keep.refl _ _)))
  · obtain ⟨k, rfl⟩ : ∃ k : Nat, n = (k : Int) := ⟨n.toNat, by omega⟩
    have HS : Hid (armS d k s = { d with armed := true, left := k, seed := s }) := show _ = _ from rfl
    rw [HS.out]
    go_enter Try.func19, Try.ntmps19
    go_wp2
    go_end0
    refine ⟨rfl, HD.out.swap (F := [g]) ?_ (by simp; exact fun h => H1.out h.symm) (by simp; exact fun h => H2.out h.symm) rfl rfl ?_, ?_⟩
    · (repeat (first | with_reducible (refine Keep.drew ?_) | with_reducible (refine Keep.drewN ?_ _) | with_reducible (refine Keep.setCell ?_ (by simp) _) | with_reducible (refine Keep.alloc ?_ _) | with_reducible (exact Keep.refl _ _)))
    · exact Blk.cast ((((HD.out.dev.set_ 6 _).set_ 7 _).set_ 5 _).alloc _) rfl
    · (repeat (first | with_reducible (refine Keep.drew ?_) | with_reducible (refine Keep.drewN ?_ _) | with_reducible (refine Keep.setCell ?_ (by simp) _) | with_reducible (refine Keep.alloc ?_ _) | with_reducible (exact Keep.refl _ _)))

def goesN (d : Dev) : Dev := (goesS d).1
set_option maxRecDepth 100000 in
set_option maxHeartbeats 600000 in
theorem fgoes_any (g b1 b2 : Nat) (d : Dev) (w : World) (hd : DevAt w g b1 b2 d) (hl : d.left ≤ 9223372036854775807) :
    Calls Try.prog 102 #[.pointer (some ⟨g, 0, none⟩)] w fun e w' => e = .returned (.bool (goesS d).2) ∧ DevAt w' g b1 b2 (goesS d).1 ∧ Keep [g] w w' := by
  obtain ⟨_, _, _, _, c4, c5, c6, _, c8⟩ := hd.cells
  have f4 := hd.dev.frozen 4
  have f5 := hd.dev.frozen 5
  have f6 := hd.dev.frozen 6
  have f8 := hd.dev.frozen 8
  have HD := Lib.hid hd
  have H1 := Lib.hid hd.ne1
  have H2 := Lib.hid hd.ne2
  clear hd
  cases ha : d.armed
  · have HS : Hid (goesS d = ({ d with ops := wrap64 (d.ops + 1) }, false)) := by show _ = _; unfold goesS; rw [ha]; rfl
    rw [ha] at c5
    rw [HS.out]
    clear ha
    go_enter Try.func102, Try.ntmps102
    go_wp2
    go_ret
    refine ⟨rfl, HD.out.swap (F := [g]) ?_ (by simp; exact fun h => H1.out h.symm) (by simp; exact fun h => H2.out h.symm) rfl rfl ?_, ?_⟩
    · (repeat (first | with_reducible (refine Keep.drew ?_) | with_reducible (refine Keep.drewN ?_ _) | with_reducible (refine Keep.setCell ?_ (by simp) _) | with_reducible (refine Keep.alloc ?_ _) | with_reducible (exact Keep.refl _ _)))
    · exact Blk.cast (HD.out.dev.set_ 8 _) rfl
    · (repeat (first | with_reducible (refine Keep.drew ?_) | with_reducible (refine Keep.drewN ?_ _) | with_reducible (refine Keep.setCell ?_ (by simp) _) | with_reducible (refine Keep.alloc ?_ _) | with_reducible (exact Keep.refl _ _)))
  · rcases Nat.eq_zero_or_pos d.left with h | h
    · have HS : Hid (goesS d = ({ d with ops := wrap64 (d.ops + 1), on := false, armed := false }, true)) := by show _ = _; unfold goesS; rw [ha, h]; rfl
      rw [ha] at c5
      rw [h] at c6
      rw [HS.out]
      clear ha h hl
      go_enter Try.func102, Try.ntmps102
      go_wp2
      go_ret
      refine ⟨rfl, HD.out.swap (F := [g]) ?_ (by simp; exact fun h => H1.out h.symm) (by simp; exact fun h => H2.out h.symm) rfl rfl ?_, ?_⟩
      · (repeat (first | with_reducible (refine Keep.drew ?_) | with_reducible (refine Keep.drewN ?_ _) | with_reducible (refine Keep.setCell ?_ (by simp) _) | with_reducible (refine Keep.alloc ?_ _) | with_reducible (exact Keep.refl _ _)))
      · exact Blk.cast (((HD.out.dev.set_ 8 _).set_ 4 _).set_ 5 _) rfl
      · (repeat (first | with_reducible (refine Keep.drew ?_) | with_reducible (refine Keep.drewN ?_ _) | with_reducible (refine Keep.setCell ?_ (by simp) _) | with_reducible (refine Keep.alloc ?_ _) | with_reducible (exact Keep.refl _ _)))
    · have HS : Hid (goesS d = ({ d with ops := wrap64 (d.ops + 1), left := d.left - 1 }, false)) := by show _ = _; unfold goesS; rw [ha, if_pos rfl, if_pos h]
      have HN : Hid (((d.left - 1 : Nat) : Int) = (d.left : Int) - 1) := by show _ = _; omega
      rw [ha] at c5
      rw [HS.out]
      clear ha
      go_enter Try.func102, Try.ntmps102
      go_wp2
      go_ret
      refine ⟨rfl, HD.out.swap (F := [g]) ?_ (by simp; exact fun h => H1.out h.symm) (by simp; exact fun h => H2.out h.symm) rfl rfl ?_, ?_⟩
      · (repeat (first | with_reducible (refine Keep.drew ?_) | with_reducible (refine Keep.drewN ?_ _) | with_reducible (refine Keep.setCell ?_ (by simp) _) | with_reducible (refine Keep.alloc ?_ _) | with_reducible (exact Keep.refl _ _)))
      · refine Blk.cast ((HD.out.dev.set_ 8 _).set_ 6 _) ?_
        show _ = devV _ _ _
        unfold devV
        rw [HN.out]
        rfl
      · (repeat (first | with_reducible (refine Keep.drew ?_) | with_reducible (refine Keep.drewN ?_ _) | with_reducible (refine Keep.setCell ?_ (by simp) _) | with_reducible (refine Keep.alloc ?_ _) | with_reducible (exact Keep.refl _ _)))
end Go.Proofs.Yteanpgkonhdbpaa
