/- JournalWhole: for all places and every row of calls the law returns true and its arguments read as before. No condition. -/
import Derived.Test.YteanpgkonhdbpaaLaw
import Derived.Test.YteanpgkonhdbpaaJrWhole
namespace Go.Proofs.Yteanpgkonhdbpaa
open Go.ChangeShapes Go.WideShapes Go.ChangeAt Go.RowKit Go.Deep

set_option maxRecDepth 100000 in
set_option maxHeartbeats 4000000 in
theorem jwhole_no (s n l b m : Int) (A : Option Addr) (k c : Nat) (w : World) (hk : k ≤ maxLen) (hno : 100 < k ∨ s < 2 ∨ n < 4 ∨ 64 < s ∨ 100 < n ∨ 400 < s * n) :
    Calls Try.prog 4 #[placeV s n l b m, .slice A k c] w fun e w' => e = .returned (.bool true) ∧ Keep [] w w' := by
  have hk64 : k ≤ 9223372036854775807 := hk
  have K1 := (Keep.refl [] w).alloc (.cells #[.int .i64 s, .int .i64 n, .int .i64 l, .int .i64 b, .int .i64 m] 23)
  unfold placeV
  clear hk
  go_enter Try.func4, Try.ntmps4
  by_cases h0 : 100 < k
  · have q0 : decide (100 < (k : Int)) = true := decide_eq_true (by omega)
    have p0 := eq_true h0
    go_wp2_with fail
    go_ret
    exact ⟨rfl, K1⟩
  have q0 : decide (100 < (k : Int)) = false := decide_eq_false (by omega)
  have p0 := eq_false h0
  by_cases h1 : s < 2
  · have q1 : decide (s < 2) = true := decide_eq_true (by omega)
    have p1 := eq_true h1
    go_wp2_with fail
    go_ret
    exact ⟨rfl, K1⟩
  have q1 : decide (s < 2) = false := decide_eq_false (by omega)
  have p1 := eq_false h1
  by_cases h2 : n < 4
  · have q2 : decide (n < 4) = true := decide_eq_true (by omega)
    have p2 := eq_true h2
    go_wp2_with fail
    go_ret
    exact ⟨rfl, K1⟩
  have q2 : decide (n < 4) = false := decide_eq_false (by omega)
  have p2 := eq_false h2
  by_cases h3 : 64 < s
  · have q3 : decide (64 < s) = true := decide_eq_true (by omega)
    have p3 := eq_true h3
    go_wp2_with fail
    go_ret
    exact ⟨rfl, K1⟩
  have q3 : decide (64 < s) = false := decide_eq_false (by omega)
  have p3 := eq_false h3
  by_cases h4 : 100 < n
  · have q4 : decide (100 < n) = true := decide_eq_true (by omega)
    have p4 := eq_true h4
    go_wp2_with fail
    go_ret
    exact ⟨rfl, K1⟩
  have q4 : decide (100 < n) = false := decide_eq_false (by omega)
  have p4 := eq_false h4
  have hmul : 0 ≤ s * n ∧ s * n ≤ 65536 := by
    obtain ⟨s', rfl⟩ : ∃ k : Nat, s = (k : Int) := ⟨s.toNat, by omega⟩
    obtain ⟨n', rfl⟩ : ∃ k : Nat, n = (k : Int) := ⟨n.toNat, by omega⟩
    have := Nat.mul_le_mul (show s' ≤ 64 by omega) (show n' ≤ 100 by omega)
    rw [← Int.natCast_mul]
    omega
  have hw : IntKind.i64.wrap (s * n) = s * n := IntWalk.i64_in _ (by omega)
  have q6 : decide (400 < s * n) = true := decide_eq_true (by omega)
  have p6 := eq_true (show 400 < s * n by omega)
  go_wp2_with fail
  go_ret
  exact ⟨rfl, K1⟩

theorem jwhole_any (s n l b m : Int) (A : Option Addr) (k c : Nat) (xs : List JOp) (w : World) (hlen : xs.length = k) (hr : Reads w 3 A k (jopRow xs)) (hxs : ∀ o ∈ xs, o.w < 4294967296 ∧ o.n ≤ 9223372036854775807) (hk : k ≤ maxLen) :
    Calls Try.prog 4 #[placeV s n l b m, .slice A k c] w fun e w' => e = .returned (.bool true) ∧ Keep [] w w' := by
  by_cases hno : 100 < k ∨ s < 2 ∨ n < 4 ∨ 64 < s ∨ 100 < n ∨ 400 < s * n
  · exact jwhole_no s n l b m A k c w hk hno
  obtain ⟨s', rfl⟩ : ∃ k : Nat, s = (k : Int) := ⟨s.toNat, by omega⟩
  obtain ⟨n', rfl⟩ : ∃ k : Nat, n = (k : Int) := ⟨n.toNat, by omega⟩
  have hmul : s' * n' ≤ 400 := by
    have : ¬ (400 < (s' : Int) * (n' : Int)) := fun h => hno (by simp [h])
    rw [← Int.natCast_mul] at this
    omega
  exact jwhole_yes s' n' l b m A k c xs w hlen hr hxs (by omega) (by omega) (by omega) (by omega) (by omega) hmul

section
variable {H : Type} {enc : TypeId × Value → H} {w : World} {base : Nat} {spare : Nat → Bool} {held : Bool}
set_option maxRecDepth 100000 in
theorem rd_jop {n : Nat} {cs : List Value} {x : DataW H × List MemPlace} (h : DataW.trod enc Try.prog w base spare held n 41 cs = some x) : ∃ o : JOp, cs = jopCells o ∧ (o.w < 4294967296 ∧ o.n ≤ 9223372036854775807) := by
  obtain ⟨xs, m, _, _, hlen, hxl, hf⟩ := DataW.trod_struct Try.underlying41 h
  have hC : Try.prog.cellsOf 41 = 3 := by kernel_rfl
  have c1 : Try.prog.cellsOf 3 = 1 := by kernel_rfl
  have c2 : Try.prog.cellsOf 33 = 1 := by kernel_rfl
  rw [hC] at hlen
  match cs, hlen, xs, hxl with
  | [v0, v1, v2], _, [y0, y1, y2], _ =>
    have h0 : DataW.trod enc Try.prog w base spare held m 3 (List.take (Try.prog.cellsOf 3) (List.drop 0 [v0, v1, v2])) = some y0 := hf 0 _ rfl
    rw [c1] at h0
    have h1 : DataW.trod enc Try.prog w base spare held m 3 (List.take (Try.prog.cellsOf 3) (List.drop 1 [v0, v1, v2])) = some y1 := hf 1 _ rfl
    rw [c1] at h1
    have h2 : DataW.trod enc Try.prog w base spare held m 33 (List.take (Try.prog.cellsOf 33) (List.drop 2 [v0, v1, v2])) = some y2 := hf 2 _ rfl
    rw [c2] at h2
    obtain ⟨k0, e0, _, _⟩ := DataW.trod_int Try.underlying3 h0
    obtain ⟨k1, e1, _, w1⟩ := DataW.trod_int Try.underlying3 h1
    obtain ⟨k3, e3, _, w3⟩ := DataW.trod_int Try.underlying33 h2
    obtain ⟨m3, rfl, hm3⟩ := wf_bounds_u32 w3
    obtain rfl : v0 = .int .i64 k0 := by simpa using e0
    obtain rfl : v1 = .int .i64 k1 := by simpa using e1
    obtain rfl : v2 = .int .u32 m3 := by simpa using e3
    exact ⟨⟨k0, k1, m3⟩, rfl, hm3, (bounds_i64 w1).2⟩
set_option maxRecDepth 100000 in
theorem rd_place {n : Nat} {cs : List Value} {x : DataW H × List MemPlace} (h : DataW.trod enc Try.prog w base spare held n 23 cs = some x) : ∃ s q l b m : Int, cs = [.int .i64 s, .int .i64 q, .int .i64 l, .int .i64 b, .int .i64 m] := by
  obtain ⟨xs, m, _, _, hlen, hxl, hf⟩ := DataW.trod_struct Try.underlying23 h
  have hC : Try.prog.cellsOf 23 = 5 := by kernel_rfl
  have c1 : Try.prog.cellsOf 3 = 1 := by kernel_rfl
  rw [hC] at hlen
  match cs, hlen, xs, hxl with
  | [v0, v1, v2, v3, v4], _, [y0, y1, y2, y3, y4], _ =>
    have h0 : DataW.trod enc Try.prog w base spare held m 3 (List.take (Try.prog.cellsOf 3) (List.drop 0 [v0, v1, v2, v3, v4])) = some y0 := hf 0 _ rfl
    rw [c1] at h0
    have h1 : DataW.trod enc Try.prog w base spare held m 3 (List.take (Try.prog.cellsOf 3) (List.drop 1 [v0, v1, v2, v3, v4])) = some y1 := hf 1 _ rfl
    rw [c1] at h1
    have h2 : DataW.trod enc Try.prog w base spare held m 3 (List.take (Try.prog.cellsOf 3) (List.drop 2 [v0, v1, v2, v3, v4])) = some y2 := hf 2 _ rfl
    rw [c1] at h2
    have h3 : DataW.trod enc Try.prog w base spare held m 3 (List.take (Try.prog.cellsOf 3) (List.drop 3 [v0, v1, v2, v3, v4])) = some y3 := hf 3 _ rfl
    rw [c1] at h3
    have h4 : DataW.trod enc Try.prog w base spare held m 3 (List.take (Try.prog.cellsOf 3) (List.drop 4 [v0, v1, v2, v3, v4])) = some y4 := hf 4 _ rfl
    rw [c1] at h4
    obtain ⟨k0, e0, _, _⟩ := DataW.trod_int Try.underlying3 h0
    obtain ⟨k1, e1, _, _⟩ := DataW.trod_int Try.underlying3 h1
    obtain ⟨k2, e2, _, _⟩ := DataW.trod_int Try.underlying3 h2
    obtain ⟨k3, e3, _, _⟩ := DataW.trod_int Try.underlying3 h3
    obtain ⟨k4, e4, _, _⟩ := DataW.trod_int Try.underlying3 h4
    obtain rfl : v0 = .int .i64 k0 := by simpa using e0
    obtain rfl : v1 = .int .i64 k1 := by simpa using e1
    obtain rfl : v2 = .int .i64 k2 := by simpa using e2
    obtain rfl : v3 = .int .i64 k3 := by simpa using e3
    obtain rfl : v4 = .int .i64 k4 := by simpa using e4
    exact ⟨k0, k1, k2, k3, k4, rfl⟩
end

set_option maxRecDepth 100000 in
theorem journalWhole_lifted (os : Os) (started : os.Started) (H : Type) (enc : TypeId × Value → H) :
    ReturnsInHanded {} Try.checked os 4 .any (Rows.journalWholeSpec.pre6 enc Try.prog Try.f4 [] false) (Rows.journalWholeSpec.post enc Try.prog Try.f4 false true false false) := by
  refine law_lifted (C := Try.checked) 4 own started (by kernel_rfl) Try.func4
    (ChangeSpec.witness6 (enc := enc) (C := Try.checked) false ⟨#[], #[.agg #[.int .i64 0, .int .i64 0, .int .i64 0, .int .i64 0, .int .i64 0], .slice none 0 0], []⟩ 8 (by kernel_rfl) (by kernel_rfl) (by kernel_rfl) (by kernel_rfl))
    rfl (fun ds h => by match ds, h with | [d, e], _ => rfl) rfl Try.underlying4 laidOut
    (by rw [Try.params4]; intro t ht; simp only [List.mem_cons, List.not_mem_nil, or_false] at ht; rcases ht with rfl | rfl <;> exact ⟨by kernel_rfl, of_decide_eq_true (by kernel_rfl)⟩) ?_
  intro W base args ds ps hA0 hval
  have hA : DataW.TrodAll enc Try.prog W 0 (fun _ => true) true Try.f4.params.toList args.toList ds ps := hA0
  rw [Try.params4] at hA hval
  obtain ⟨v0, v1, d0, d1, p0, p1, hargs, rfl, rfl, ⟨f0, h0⟩, h1⟩ := trodAll_two hA
  subst hargs
  obtain ⟨f1, h1⟩ := h1
  obtain ⟨cs, rfl, _⟩ := okWide_struct Try.underlying23 (hval 0 23 v0 rfl rfl)
  obtain ⟨a1, len1, cap1, rfl⟩ := okWide_slice Try.underlying39 (hval 1 39 v1 rfl rfl)
  obtain ⟨s, q, l, b, m, e0⟩ := rd_place h0
  obtain ⟨A, n, c, xs, e, g1, g2, g3, g4, g5⟩ := rd_plain (cells := jopCells) (ok := fun o => o.w < 4294967296 ∧ o.n ≤ 9223372036854775807) (size := 3) Try.underlying39 (by kernel_rfl) (by decide) (fun n cs x h => rd_jop h) h1
  simp only [Value.cells, List.cons.injEq, and_true] at e
  rw [e]
  have hcs : cs = #[.int .i64 s, .int .i64 q, .int .i64 l, .int .i64 b, .int .i64 m] := by
    have e0' : cs.toList = [.int .i64 s, .int .i64 q, .int .i64 l, .int .i64 b, .int .i64 m] := e0
    rw [← Array.toArray_toList (xs := cs), e0']
  rw [hcs]
  exact jwhole_any s q l b m A n c xs W g3 g4 g5 (Nat.le_trans g1 g2)

theorem journalWhole_holds : Rows.JournalWholeSaid :=
  OpenClaim.holds_of_wide 4 Try.f4 rfl rfl rfl rfl rfl rfl rfl ⟨rfl, rfl, rfl, rfl, rfl⟩ rfl rfl rfl rfl rfl (by kernel_rfl) Try.func4 (by kernel_rfl)
    (of_decide_eq_true (by kernel_rfl)) (by unfold Func.isWrapper; first | (rw [if_pos (by decide +kernel)]; kernel_rfl) | (rw [if_neg (by decide +kernel)]; exact ⟨rfl, rfl⟩))
    (fun os started H enc _ => journalWhole_lifted os started H enc)
#print axioms journalWhole_holds
end Go.Proofs.Yteanpgkonhdbpaa
