/- DigitsPieces: for every text the law returns true and its argument reads as before. No condition. -/
import Derived.Test.YtmhaomoohacjjaaDigRef
import Derived.Test.YtmhaomoohacjjaaDigAlive
import Derived.Test.YtmhaomoohacjjaaLaw
namespace Go.Proofs.Ytmhaomoohacjjaa
open Go.ChangeShapes Go.WideShapes Go.ChangeAt Go.RowKit Go.Deep

theorem strs_at {w : World} {A : Option Addr} {l : List ByteArray} {n : Nat} (h : Reads w 1 A n (strs l)) (hn : l.length = n) (h0 : 0 < n) : ∃ b o, A = some ⟨b, o, none⟩ ∧ b < w.heap.size ∧ ∀ k, (hk : k < l.length) → w.cell? ⟨b, o + k, none⟩ = some (.string l[k]) := by
  obtain ⟨b, o, e, hb, hc⟩ := h.addr h0
  exact ⟨b, o, e, hb, fun k hk => hc k _ (by rw [strs, List.getElem?_map, List.getElem?_eq_getElem hk]; rfl)⟩
set_option maxRecDepth 100000 in
set_option maxHeartbeats 1000000 in
theorem same_any (A B : Option Addr) (c d n : Nat) (l : List ByteArray) (w : World) (hn : l.length = n) (hA : Reads w 1 A n (strs l)) (hB : Reads w 1 B n (strs l)) (ha : n ≤ 1000000) :
    Calls Try.prog 16 #[.slice A n c, .slice B n d] w fun e w' => e = .returned (.bool true) ∧ Keep [] w w' := by
  have HA := Lib.hid hA
  have HB := Lib.hid hB
  have HN := Lib.hid hn
  clear hA hB hn
  go_enter Try.func16, Try.ntmps16
  go_wp2
  go_loopw [5] (fun vi wr => ∃ k : Nat, k ≤ n ∧ vi = .int .i64 (k : Int) ∧ Keep [] w wr) (fun vi _ => n - (intOf vi).toNat)
  case atStart => exact ⟨0, Nat.zero_le _, rfl, Keep.refl _ _⟩
  case round =>
    obtain ⟨k, hk, rfl, hK⟩ := hrel
    by_cases hlt : k < n
    · obtain ⟨b1, o1, hA1, hb1, hc1⟩ := strs_at (HA.out.keep0 hK) HN.out (by omega)
      obtain ⟨b2, o2, hB1, hb2, hc2⟩ := strs_at (HB.out.keep0 hK) HN.out (by omega)
      have hkl : k < l.length := by have := HN.out; omega
      have q1 := hc1 k hkl
      have q2 := hc2 k hkl
      have hk0 : (0 : Int) ≤ (k : Int) := by omega
      have hk1 : (k : Int) < (n : Int) := by omega
      have hF : ∀ w', Keep [] wr w' → w'.cell? ⟨b1, o1 + k, none⟩ = some (.string l[k]) ∧ w'.cell? ⟨b2, o2 + k, none⟩ = some (.string l[k]) := fun w' hk' => ⟨(hk'.cell (p := ⟨b1, o1 + k, none⟩) hb1 (by simp)).trans q1, (hk'.cell (p := ⟨b2, o2 + k, none⟩) hb2 (by simp)).trans q2⟩
      rw [hA1, hB1] at *
      clear hc1 hc2 q1 q2
      generalize l[k] = y at *
      go_wp2
      refine wp_region_flow (Keep [] wr) rfl (by kernel_rfl) (Keep.refl _ _).drew ?_
      repeat (refine fl_val (v := ?_) (by rfl) ?_ ?_; rotate_left; (intro w' hS; obtain ⟨f1,f2⟩ := hF w' hS; go_simp; with_reducible rfl); simp only [Act.put, List.setIfInBounds_toArray, List.set_cons_zero, List.set_cons_succ])
      refine fl_nil ?_
      intro w' hS
      clear hF
      go_wp2
      go_roundw
      case rel => exact ⟨k + 1, by omega, by go_num, hK.then hS⟩
      case measure => simp [intOf] <;> omega
    · obtain rfl : k = n := by omega
      go_wp2
      go_ret
      exact ⟨rfl, hK⟩

set_option maxRecDepth 100000 in
set_option maxHeartbeats 1000000 in
theorem digitsPieces_any (s : ByteArray) (w : World) (hs : s.size ≤ maxLen) : Calls Try.prog 5 #[.string s] w fun e w' => e = .returned (.bool true) ∧ Keep [] w w' := by
  unfold maxLen at hs
  by_cases hbig : 5000 < s.size
  · have hb : (5000 : Int) < (s.size : Int) := by omega
    go_enter Try.func5, Try.ntmps5
    go_wp2
    go_ret
    exact ⟨rfl, Keep.refl _ _⟩
  · have hb : (s.size : Int) ≤ 5000 := by omega
    have hsz : s.size ≤ 1000000 := by omega
    have HRP := fun W => Lib.hid (rpieces_any s W hsz)
    have HP := fun W => Lib.hid (piecesHelp_any s W hsz)
    have HF := fun W => Lib.hid (first_any s W hsz)
    have HL := fun W => Lib.hid (linesHelp_any s W hsz)
    have HRL := fun W => Lib.hid (rlines_any s W hsz)
    have HA := fun W => Lib.hid (alive01 W)
    have hpl : (piecesOf s).length ≤ 1000000 := by have := (scan_le s (s.size + 1)).1; unfold piecesOf; omega
    have hll : (linesT s).length ≤ 1000000 := by have := linesT_len s; omega
    generalize piecesOf s = P at *
    generalize linesT s = L at *
    clear hbig
    go_enter Try.func5, Try.ntmps5
    go_wp2_with fail
    refine (HRP w).out.mono ?_
    rintro e w1 ⟨A, c, rfl, o1, k1⟩
    have HS := fun n (hn : P.length = n) (hn2 : n ≤ 1000000) B d A c W (h1 : Reads W 1 B n (strs P)) (h2 : Reads W 1 A n (strs P)) => Lib.hid (same_any B A d c n P W hn h1 h2 hn2)
    have HS2 := fun n (hn : L.length = n) (hn2 : n ≤ 1000000) B d A c W (h1 : Reads W 1 B n (strs L)) (h2 : Reads W 1 A n (strs L)) => Lib.hid (same_any B A d c n L W hn h1 h2 hn2)
    have HLE : Hid (L.length ≤ 1000000) := hll
    have HHE : Hid ((P = [] ∧ headS P = ByteArray.empty) ∨ ∃ a l, P = a :: l ∧ headS P = a) := by
      cases P with
      | nil => exact .inl ⟨rfl, rfl⟩
      | cons a l => exact .inr ⟨a, l, rfl, rfl⟩
    have r1 := Reads.of_own o1
    generalize hPn : P.length = n at *
    generalize hhd : headS P = hd at *
    have HPN := Lib.hid hPn
    clear hPn hhd hll HRP
    rcases HHE.out with ⟨hnil, he⟩ | ⟨a, l, hcons, he⟩
    · have hn0 : n = 0 := by rw [← HPN.out, hnil]; rfl
      subst hn0
      have hHd : hd = { data := #[] } := he
      subst hHd
      clear he HHE
      have HNN := Lib.hid hpl
      clear hpl
      go_wp2_with fail
      refine (HP w1).out.mono ?_
      rintro e w2 ⟨A2, c2, rfl, o2, k2⟩
      rw [HPN.out] at o2 ⊢
      have HR2 := Lib.hid (Reads.of_own o2)
      have HR1 := Lib.hid (r1.keep0 k2)
      clear o2 HP
      go_wp2_with fail
      refine (HS _ rfl HNN.out A2 c2 A c w2 HR2.out HR1.out).out.mono ?_
      rintro e w3 ⟨rfl, k3⟩
      clear HS HR1 HR2
      go_wp2_with fail
      refine (HF w3).out.mono ?_
      rintro e w4 ⟨rfl, k4⟩
      clear HF
      go_wp2_with fail
      refine (HL w4).out.mono ?_
      rintro e w5 ⟨A5, c5, rfl, o5, k5⟩
      have HR5 := Lib.hid (Reads.of_own o5)
      clear o5 HL
      generalize hLm : L.length = m at *
      have HLM := Lib.hid hLm
      clear hLm
      go_wp2_with fail
      refine (HRL w5).out.mono ?_
      rintro e w6 ⟨A6, c6, rfl, o6, k6⟩
      rw [HLM.out] at o6 ⊢
      have HR6 := Lib.hid (Reads.of_own o6)
      have HR5' := Lib.hid (HR5.out.keep0 k6)
      clear o6 HRL
      go_wp2_with fail
      refine (HS2 _ rfl HLE.out A5 c5 A6 c6 w6 HR5'.out HR6.out).out.mono ?_
      rintro e w7 ⟨rfl, k7⟩
      go_wp2_with fail
      refine (HA w7).out.mono ?_
      rintro e w8 ⟨rfl, k8⟩
      go_wp2
      go_ret
      exact ⟨rfl, ((((((k1.then k2).then k3).then k4).then k5).then k6).then k7).then k8⟩
    · have hn1 : (0 : Int) < (n : Int) := by rw [← HPN.out, hcons]; simp
      have hn2 : (0 : Nat) < n := by omega
      obtain ⟨b, o, hA1, hb1, hc1⟩ := strs_at r1 HPN.out hn2
      have q0 := hc1 0 (by rw [hcons]; simp)
      have e0 : P[0]'(by rw [hcons]; simp) = hd := by subst hcons; exact he.symm
      rw [e0] at q0
      rw [Nat.add_zero] at q0
      subst hA1
      clear he HHE hc1 hcons e0
      have HNN := Lib.hid hpl
      clear hpl
      go_wp2_with fail
      refine (HP w1).out.mono ?_
      rintro e w2 ⟨A2, c2, rfl, o2, k2⟩
      rw [HPN.out] at o2 ⊢
      have HR2 := Lib.hid (Reads.of_own o2)
      have HR1 := Lib.hid (r1.keep0 k2)
      clear o2 HP
      go_wp2_with fail
      refine (HS _ rfl HNN.out A2 c2 (some ⟨b, o, none⟩) c w2 HR2.out HR1.out).out.mono ?_
      rintro e w3 ⟨rfl, k3⟩
      clear HS HR1 HR2
      go_wp2_with fail
      refine (HF w3).out.mono ?_
      rintro e w4 ⟨rfl, k4⟩
      clear HF
      go_wp2_with fail
      refine (HL w4).out.mono ?_
      rintro e w5 ⟨A5, c5, rfl, o5, k5⟩
      have HR5 := Lib.hid (Reads.of_own o5)
      clear o5 HL
      generalize hLm : L.length = m at *
      have HLM := Lib.hid hLm
      clear hLm
      go_wp2_with fail
      refine (HRL w5).out.mono ?_
      rintro e w6 ⟨A6, c6, rfl, o6, k6⟩
      rw [HLM.out] at o6 ⊢
      have HR6 := Lib.hid (Reads.of_own o6)
      have HR5' := Lib.hid (HR5.out.keep0 k6)
      clear o6 HRL
      go_wp2_with fail
      refine (HS2 _ rfl HLE.out A5 c5 A6 c6 w6 HR5'.out HR6.out).out.mono ?_
      rintro e w7 ⟨rfl, k7⟩
      go_wp2_with fail
      refine (HA w7).out.mono ?_
      rintro e w8 ⟨rfl, k8⟩
      go_wp2
      go_ret
      exact ⟨rfl, ((((((k1.then k2).then k3).then k4).then k5).then k6).then k7).then k8⟩

set_option maxRecDepth 100000 in
theorem digitsPieces_lifted (os : Os) (started : os.Started) (H : Type) (enc : TypeId × Value → H) :
    ReturnsInHanded {} Try.checked os 5 .any (Rows.digitsPiecesSpec.pre6 enc Try.prog Try.f5 [] false) (Rows.digitsPiecesSpec.post enc Try.prog Try.f5 false true false false) := by
  refine law_lifted (C := Try.checked) 4 own started (by kernel_rfl) Try.func5
    (ChangeSpec.witness6 (enc := enc) (C := Try.checked) false ⟨#[], #[.string ByteArray.empty], []⟩ 8 (by kernel_rfl) (by kernel_rfl) (by kernel_rfl) (by kernel_rfl))
    rfl (fun ds h => by match ds, h with | [d], _ => rfl) rfl Try.underlying4 laidOut
    (by rw [Try.params5]; intro t ht; simp only [List.mem_cons, List.not_mem_nil, or_false] at ht; rcases ht with rfl; exact ⟨by kernel_rfl, of_decide_eq_true (by kernel_rfl)⟩) ?_
  intro W base args ds ps hA0 hval
  have hA : DataW.TrodAll enc Try.prog W 0 (fun _ => true) true Try.f5.params.toList args.toList ds ps := hA0
  rw [Try.params5] at hA hval
  obtain ⟨v, d, rfl, rfl, fuel, h0⟩ := trodAll_one hA
  obtain ⟨s, rfl, rfl, rfl, hs⟩ := Go.ChangeMaps.open_string Try.underlying9 (hval 0 9 v rfl rfl) ⟨fuel, h0⟩
  exact digitsPieces_any s W hs

theorem digitsPieces_holds : Rows.DigitsPiecesSaid :=
  OpenClaim.holds_of_wide 5 Try.f5 rfl rfl rfl rfl rfl rfl rfl ⟨rfl, rfl, rfl, rfl, rfl⟩ rfl rfl rfl rfl rfl (by kernel_rfl) Try.func5 (by kernel_rfl)
    (of_decide_eq_true (by kernel_rfl)) (by unfold Func.isWrapper; first | (rw [if_pos (by decide +kernel)]; kernel_rfl) | (rw [if_neg (by decide +kernel)]; exact ⟨rfl, rfl⟩))
    (fun os started H enc _ => digitsPieces_lifted os started H enc)
#print axioms digitsPieces_holds
end Go.Proofs.Ytmhaomoohacjjaa
