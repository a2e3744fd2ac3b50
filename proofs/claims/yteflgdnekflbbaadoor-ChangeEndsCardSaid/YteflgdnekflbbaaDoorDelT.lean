/- Timers in memory; what is looked for among them; walked. No condition. A timer more; walked. No condition. A tick of the timers; walked. No condition. -/
import Derived.Test.YteflgdnekflbbaaDoorChQ
import Derived.Test.YteflgdnekflbbaaDoorRangeB
import Derived.Test.YteflgdnekflbbaaDoorReg
import Derived.Deep.LoopGhost
namespace Go.Proofs.YteflgdnekflbbaaDoor
open Go.RowKit
attribute [local go_sem] Oper.semAt_some

/-- Timers one behind the other, each by what it is due behind the one ahead. -/
def dlT : Nat → List (Nat × Nat) → List (Nat × Nat)
  | _, [] => []
  | a, p :: l => (p.1, p.2 - a) :: dlT p.2 l
def TmAt (w : World) : Option Addr → List Nat → List (Nat × Nat) → Prop
  | A, [], [] => A = none
  | A, b :: bs, p :: l => A = some ⟨b, 0, none⟩ ∧ ∃ nx, Blk w b 98 #[.int .i64 (p.1 : Int), .int .i64 (p.2 : Int), .pointer nx] ∧ TmAt w nx bs l
  | _, _, _ => False
theorem TmAt.len {w : World} : ∀ {A : Option Addr} {bs : List Nat} {l : List (Nat × Nat)}, TmAt w A bs l → bs.length = l.length
  | _, [], [], _ => rfl
  | _, [], _ :: _, h => h.elim
  | _, _ :: _, [], h => h.elim
  | _, b :: bs, p :: l, h => by
    obtain ⟨_, nx, _, h2⟩ := h
    rw [List.length_cons, List.length_cons, h2.len]
theorem TmAt.keep {F : List Nat} {w w' : World} : ∀ {A : Option Addr} {bs : List Nat} {l : List (Nat × Nat)}, TmAt w A bs l → Keep F w w' → (∀ b ∈ bs, b ∉ F) → TmAt w' A bs l
  | _, [], [], h, _, _ => h
  | _, [], _ :: _, h, _, _ => h.elim
  | _, _ :: _, [], h, _, _ => h.elim
  | _, b :: bs, p :: l, h, k, hF => by
    obtain ⟨e, nx, h1, h2⟩ := h
    exact ⟨e, nx, h1.keep k (hF b (by simp)), h2.keep k (fun a ha => hF a (by simp [ha]))⟩
theorem TmAt.lt {w : World} : ∀ {A : Option Addr} {bs : List Nat} {l : List (Nat × Nat)}, TmAt w A bs l → ∀ b ∈ bs, b < w.heap.size
  | _, [], [], _, _, hb => by cases hb
  | _, [], _ :: _, h, _, _ => h.elim
  | _, _ :: _, [], h, _, _ => h.elim
  | _, b :: bs, p :: l, h, a, ha => by
    obtain ⟨_, nx, h1, h2⟩ := h
    rcases List.mem_cons.1 ha with rfl | ha
    · exact h1.lt
    · exact h2.lt a ha
theorem TmAt.same {w w' : World} : ∀ {A : Option Addr} {bs : List Nat} {l : List (Nat × Nat)}, TmAt w A bs l → (∀ b ∈ bs, w'.heap[b]? = w.heap[b]?) → TmAt w' A bs l
  | _, [], [], h, _ => h
  | _, [], _ :: _, h, _ => h.elim
  | _, _ :: _, [], h, _ => h.elim
  | _, b :: bs, p :: l, h, k => by
    obtain ⟨e, nx, h1, h2⟩ := h
    exact ⟨e, nx, (k b (by simp)).trans h1, h2.same (fun a ha => k a (by simp [ha]))⟩
def tmP (p : Nat × Nat) : PII := ((p.1 : Int), (p.2 : Int))
/-- How far a pointer stands from the end. -/
def ptrM (bs : List Nat) : Value → Nat
  | .pointer (some a) => bs.length - bs.idxOf a.block
  | _ => 0
theorem idx_mid {pb bs : List Nat} {b : Nat} (h : (pb ++ b :: bs).Nodup) : (pb ++ b :: bs).idxOf b = pb.length := by
  have hn : b ∉ pb := fun hb => by
    rw [List.nodup_append] at h
    exact h.2.2 b hb b (by simp) rfl
  rw [List.idxOf_append, if_neg hn]
  simp
theorem dall_any (A : Option Addr) (w : World) : Calls Tryd.prog 65 #[.pointer A] w fun e w' =>
    e = .returned (.func (.func 75) #[] #[.pointer (some ⟨w.heap.size, 0, none⟩)]) ∧ w.alloc (.cells #[.pointer A] 96) = w' := by
  go_enter Tryd.func65, Tryd.ntmps65
  go_wp2
  go_ret
  exact ⟨rfl, rfl⟩

set_option maxRecDepth 100000 in
set_option maxHeartbeats 1000000 in
theorem dall1_seq (n : Nat) (L : List (Nat × Nat)) (A : Option Addr) (bs : List Nat) (B g f : Nat) (w : World) (hB : Blk w B 96 #[.pointer (some ⟨g, f, none⟩)]) (hg : g < w.heap.size) (hc : w.cell? ⟨g, f, none⟩ = some (.pointer A))
    (hT : TmAt w A bs (dlT 0 L)) (hn : bs.Nodup) (hs : SortT L) (h16 : ∀ p ∈ L, p.2 ≤ 65536) :
    SeqP Fence.wide n Tryd.prog 75 #[.pointer (some ⟨B, 0, none⟩)] encPII (Same (B :: g :: bs)) (L.map tmP) w := by
  intro l0 J Jx W hW hJ hJx hY h0
  have hBw := hB.lt
  have hbw := hT.lt
  have q0 : W.cell? ⟨B, 0, none⟩ = some (.pointer (some ⟨g, f, none⟩)) := (hW.cell (p := ⟨B, 0, none⟩) hBw).trans (by rw [hB.cell]; rfl)
  have q1 : W.cell? ⟨g, f, none⟩ = some (.pointer A) := (hW.cell (p := ⟨g, f, none⟩) hg).trans hc
  have HTW : Hid (TmAt W A bs (dlT 0 L)) := hT.same (fun b hb => hW.block b (hbw b hb))
  clear hT hB hc
  refine callsIn_of_wp Tryd.func75 rfl trivial ?_ rfl
  simp only [Tryd.ntmps75, List.size_toArray, List.length_cons, List.length_nil, Nat.reduceAdd, Nat.reduceSub, Array.replicate_succ, Array.replicate_zero, List.push_toArray, List.append_toArray, List.nil_append, List.cons_append]
  gi_wp2
  gi_loopw [3, 4] (fun v3 v4 wr => ∃ (pre rest : List (Nat × Nat)) (A' : Option Addr) (pb bs' : List Nat) (a : Nat), L = pre ++ rest ∧ bs = pb ++ bs' ∧ v3 = .int .i64 (a : Int) ∧ v4 = .pointer A' ∧ TmAt W A' bs' (dlT a rest) ∧ (∀ p ∈ rest, a ≤ p.2) ∧ J (pre.map tmP) wr ∧ Same (B :: g :: bs) W wr) (fun _ v4 _ => ptrM bs v4)
  case atStart => exact ⟨[], L, A, [], bs, 0, rfl, rfl, rfl, rfl, HTW.out, fun p _ => Nat.zero_le _, h0, Same.refl _ _⟩
  case round =>
    obtain ⟨pre, rest, A', pb, bs', a, hL, hb, rfl, rfl, hT, hle, hJr, hk⟩ := hrel
    cases rest with
    | nil =>
      have hA : A' = none := by
        cases bs' with
        | nil => exact hT
        | cons b bs' => exact hT.elim
      subst hA
      have HE : Hid (pre.map tmP = L.map tmP) := by show _ = _; rw [hL, List.append_nil]
      clear hL hb hT
      gi_wp2
      go_end0
      exact ⟨⟨_, rfl⟩, .inl (by rw [← HE.out]; exact hJr)⟩
    | cons p rest =>
      cases bs' with
      | nil => exact hT.elim
      | cons b bs' =>
        obtain ⟨rfl, nx, hblk, hT2⟩ := hT
        have hbr : wr.heap[b]? = W.heap[b]? := hk b (by simp [hb])
        have hbl : Blk wr b 98 #[.int .i64 (p.1 : Int), .int .i64 ((p.2 - a : Nat) : Int), .pointer nx] := hbr.trans hblk
        have c0 : wr.cell? ⟨b, 0, none⟩ = some (.int .i64 (p.1 : Int)) := by rw [hbl.cell]; rfl
        have c1 : wr.cell? ⟨b, 1, none⟩ = some (.int .i64 ((p.2 - a : Nat) : Int)) := by rw [hbl.cell]; rfl
        have hpa := hle p (by simp)
        have hp16 := h16 p (by rw [hL]; simp)
        have hsum : IntKind.i64.wrap ((a : Int) + ((p.2 - a : Nat) : Int)) = (p.2 : Int) := by rw [IntWalk.i64_in _ (by omega)]; omega
        have hpre : (pre.map tmP) ++ [tmP p] <+: L.map tmP := by rw [hL, List.map_append]; exact ⟨rest.map tmP, by simp⟩
        obtain ⟨fn, tmps, assign, body, hy, hR⟩ := hY (pre.map tmP) (tmP p) wr hJr hpre
        have HPRE : Hid ((pre.map tmP) ++ [tmP p] <+: L.map tmP) := hpre
        have HL2 : Hid (L = (pre ++ [p]) ++ rest ∧ bs = (pb ++ [b]) ++ bs') := ⟨by rw [hL]; simp, by rw [hb]; simp⟩
        have HM : Hid (ptrM bs (.pointer nx) < ptrM bs (.pointer (some ⟨b, 0, none⟩))) := by
          show _ < _
          unfold ptrM
          have e1 : bs.idxOf b = pb.length := by rw [hb]; exact idx_mid (by rw [← hb]; exact hn)
          have e3 : bs.length = pb.length + bs'.length + 1 := by rw [hb]; simp; omega
          dsimp only
          rw [e1]
          cases rest with
          | nil =>
            cases bs' with
            | nil => rw [show nx = none from hT2]; dsimp only; omega
            | cons b2 bs2 => exact hT2.elim
          | cons p2 rest2 =>
            cases bs' with
            | nil => exact hT2.elim
            | cons b2 bs2 =>
              rw [hT2.1]
              dsimp only
              have e2 : bs.idxOf b2 = (pb ++ [b]).length := by
                have : bs = (pb ++ [b]) ++ b2 :: bs2 := by rw [hb]; simp
                rw [this]; exact idx_mid (by rw [← this]; exact hn)
              rw [e2]
              simp at e3 ⊢
              omega
        have HBK : Hid (∀ X, Same (B :: g :: bs) W X → X.cell? ⟨b, 2, none⟩ = some (.pointer nx)) := fun X hX => by
          have h1 : Blk X b 98 #[.int .i64 (p.1 : Int), .int .i64 ((p.2 - a : Nat) : Int), .pointer nx] := (hX b (by simp [hb])).trans hblk
          rw [h1.cell]; rfl
        have HS : Hid (SortT L) := hs
        have HT2 := Lib.hid hT2
        have HLE : Hid (∀ q ∈ rest, p.2 ≤ q.2) := fun q hq => by
          have h1 := HS.out
          rw [hL, SortT, List.pairwise_append] at h1
          exact (List.pairwise_cons.1 h1.2.1).1 q hq
        have HK := Lib.hid hk
        dsimp only [encPII, tmP] at hy
        clear hL hb hle hpre hblk hbr hT2 hk hbl hpa hp16
        gi_wp2
        refine ⟨fun h => (by cases h), hR.mono ?_⟩
        rintro e W3 (⟨rfl, hJ3, hk3⟩ | ⟨rfl, hJx3⟩)
        · have HK3 := Lib.hid (HK.out.trans hk3)
          have c2 := HBK.out W3 HK3.out
          have HJ3 := Lib.hid hJ3
          clear hJ3 hk3 hsum
          gi_wp2
          go_roundw
          case rel => exact ⟨pre ++ [p], rest, nx, pb ++ [b], bs', p.2, HL2.out.1, HL2.out.2, rfl, rfl, HT2.out, HLE.out, by rw [List.map_append]; exact HJ3.out, HK3.out⟩
          case measure => exact HM.out
        · gi_wp2
          refine bodyPost_ret (results_none rfl _ _ _) rfl ?_
          exact ⟨⟨_, rfl⟩, .inr ⟨_, HPRE.out, hJx3⟩⟩
theorem dall1_stops (n : Nat) (L : List (Nat × Nat)) (A : Option Addr) (bs : List Nat) (B g f : Nat) (w : World) (hB : Blk w B 96 #[.pointer (some ⟨g, f, none⟩)]) (hg : g < w.heap.size) (hc : w.cell? ⟨g, f, none⟩ = some (.pointer A))
    (hT : TmAt w A bs (dlT 0 L)) (hn : bs.Nodup) (hs : SortT L) (h16 : ∀ p ∈ L, p.2 ≤ 65536) :
    SeqStopsK Fence.wide n Tryd.prog 75 #[.pointer (some ⟨B, 0, none⟩)] encPII (Same (B :: g :: bs)) (fun xs => xs = L.map tmP) (fun pre => pre <+: L.map tmP) (L.map tmP).length w :=
  (dall1_seq n L A bs B g f w hB hg hc hT hn hs h16).stops
set_option maxRecDepth 100000 in
set_option maxHeartbeats 1000000 in
theorem due_no (L : List (Nat × Nat)) (A : Option Addr) (bs : List Nat) (g f id : Nat) (w : World) (hg : g < w.heap.size) (hc : w.cell? ⟨g, f, none⟩ = some (.pointer A))
    (hT : TmAt w A bs (dlT 0 L)) (hn : bs.Nodup) (hs : SortT L) (h16 : ∀ p ∈ L, p.2 ≤ 65536) (hid : id ∉ L.map Prod.fst) :
    Calls Tryd.prog 50 #[.pointer (some ⟨g, f, none⟩), .int .i64 (id : Int)] w fun e w' => e = .returned (.tuple #[.int .i64 0, .bool false]) ∧ Keep [] w w' := by
  rw [← callsIn_wide (n := 9)]
  refine callsIn_of_wp_marks Tryd.func50 rfl trivial ?_ rfl
  simp only [Tryd.ntmps50, List.size_toArray, List.length_cons, List.length_nil, Nat.reduceAdd, Nat.reduceSub, Array.replicate_succ, Array.replicate_zero, List.push_toArray, List.append_toArray, List.nil_append, List.cons_append]
  have HID : Hid (id ∉ L.map Prod.fst) := hid
  have HTW := Lib.hid hT
  gi_wp2_with (refine ⟨trivial, ?_⟩; gi_at_call 65; refine (callsIn_wide.2 (dall_any _ _)).mono ?_; rintro e w' ⟨rfl, rfl⟩)
  obtain ⟨W0, hW0⟩ : ∃ W0, (((w.alloc (.cells #[.int .i64 (id : Int)] 3)).alloc (.cells #[.int .i64 0] 3)).alloc (.cells #[.bool false] 4)).alloc (.cells #[.pointer (some ⟨g, f, none⟩)] 96) = W0 := ⟨_, rfl⟩
  have hz0 : W0.heap.size = w.heap.size + 4 := by rw [← hW0]; simp
  have b3 : Blk W0 w.heap.size 3 #[.int .i64 (id : Int)] := by rw [← hW0]; exact (((Blk.new _ _ _).alloc _).alloc _).alloc _
  have b4 : Blk W0 (w.heap.size + 1) 3 #[.int .i64 0] := by
    rw [← hW0]; have := Blk.new (w.alloc (.cells #[.int .i64 (id : Int)] 3)) 3 #[.int .i64 0]; rw [World.size_alloc] at this; exact (this.alloc _).alloc _
  have b5 : Blk W0 (w.heap.size + 1 + 1) 4 #[.bool false] := by
    rw [← hW0]; have := Blk.new ((w.alloc (.cells #[.int .i64 (id : Int)] 3)).alloc (.cells #[.int .i64 0] 3)) 4 #[.bool false]; simp only [World.size_alloc] at this; exact this.alloc _
  have b6 : Blk W0 (w.heap.size + 1 + 1 + 1) 96 #[.pointer (some ⟨g, f, none⟩)] := by
    rw [← hW0]; have := Blk.new (((w.alloc (.cells #[.int .i64 (id : Int)] 3)).alloc (.cells #[.int .i64 0] 3)).alloc (.cells #[.bool false] 4)) 96 #[.pointer (some ⟨g, f, none⟩)]; simp only [World.size_alloc] at this; exact this
  have K0 : Keep [] w W0 := by rw [← hW0]; exact ((((Keep.refl _ w).alloc _).alloc _).alloc _).alloc _
  have hgW : g < W0.heap.size := by omega
  have hcW : W0.cell? ⟨g, f, none⟩ = some (.pointer A) := (K0.cell (p := ⟨g, f, none⟩) hg (by simp)).trans hc
  have hTW := HTW.out.keep K0 (fun _ _ => by simp)
  have hbl := hTW.lt
  simp only [hW0]
  obtain ⟨g4, hg4⟩ : ∃ x, w.heap.size + 1 = x := ⟨_, rfl⟩
  rw [hg4] at b4 b5 b6 ⊢
  obtain ⟨g5, hg5⟩ : ∃ x, g4 + 1 = x := ⟨_, rfl⟩
  rw [hg5] at b5 b6 ⊢
  obtain ⟨g6, hg6⟩ : ∃ x, g5 + 1 = x := ⟨_, rfl⟩
  rw [hg6] at b6 ⊢
  have hzs : w.heap.size < g4 ∧ g4 < g5 ∧ g5 < g6 ∧ g6 < W0.heap.size := by omega
  have hgb : g < w.heap.size := hg
  have hbw : ∀ b ∈ bs, b < w.heap.size := HTW.out.lt
  clear hW0 hg4 hg5 hg6 hT
  refine wpIn_rangeFunc_ownG (F := Fence.wide) (n := 9) (ps := #[10, 11]) rfl (by omega) (gf := 75) (lb := #[.pointer (some ⟨g6, 0, none⟩)]) rfl trivial (enters_of Tryd.func75 (by kernel_rfl) rfl)
    (dall1_seq _ L A bs g6 g f W0 b6 hgW hcW hTW hn hs h16).sub Same.trans (Same.turn (by intro k hk; simp only [List.mem_cons] at hk; rcases hk with rfl | rfl | hk; exact hzs.2.2.2; exact hgW; exact hbl k hk)) (Below.refl _ _) (fun _ => rfl)
    (fun pre W => Keep [] W0 W)
    (fun c pre W => False)
    ?hI ?hIx (Keep.refl _ _)
    (fun x => { tmps := #[.pointer (some ⟨g, f, none⟩), .int .i64 (id : Int), undef, .pointer (some ⟨w.heap.size, 0, none⟩), .pointer (some ⟨g4, 0, none⟩), .pointer (some ⟨g5, 0, none⟩), .int .i64 x.1.1, .int .i64 x.1.2, .pointer (some ⟨g, f, none⟩),
      .func (.func 75) #[] #[.pointer (some ⟨g6, 0, none⟩)], .int .i64 x.1.1, .int .i64 x.1.2, undef, undef, undef, undef], defers := [] }) ?assign ?body ?done ?stop
  case hI =>
    rintro pre X Y row h4 hg hr
    exact keep_own (β := Unit) (Nat.le_refl _) () X Y row h4 hg hr
  case hIx => exact fun _ _ _ _ _ h _ _ => h.elim
  case assign =>
    intro l x W K hK
    simp only [encPII]
    gi_wp2
    exact hK
  case body =>
    rintro l pre ⟨x, hx⟩ W hK hlt
    have c3 := (b3.keep0 hK).cell 0
    simp at c3
    have hne : (x.1 == (id : Int)) = false := by
      obtain ⟨p, hp, rfl⟩ := List.mem_map.1 hx
      refine beq_eq_false_iff_ne.2 (fun e => HID.out (List.mem_map.2 ⟨p, hp, ?_⟩))
      have e' : ((p.1 : Nat) : Int) = (id : Int) := e
      omega
    dsimp only
    obtain ⟨x1, x2⟩ := x
    dsimp only at hne ⊢
    gi_wp2
    exact ⟨(Keep.refl [] W).from0, Same.refl _ _, hK⟩
  case done =>
    rintro D ys W hD hys hK hD2
    have k4 := b4.keep0 hK
    have k5 := b5.keep0 hK
    have c4 := k4.cell 0
    have f4 := k4.frozen 0
    have k5' := k5.far (p := ⟨g4, 0, none⟩) (by show g5 ≠ g4; omega) (.int .i64 0)
    have c5 := k5'.cell 0
    have f5 := k5'.frozen 0
    simp at c4 c5
    have kA : Keep [g4] W (W.setCell ⟨g4, 0, none⟩ (.int .i64 0)) := keep_set W g4 0 _
    have m4 := (k4.set_ 0 (.int .i64 0)).far (p := ⟨g5, 0, none⟩) (by show g4 ≠ g5; omega) (.bool false)
    have m5 := k5'.set_ 0 (.bool false)
    have hDs := (Array.getElem?_eq_some_iff.1 hD2).1
    have hK2 := hK.size
    have hD4 : (W.setCell ⟨g4, 0, none⟩ (.int .i64 0)).heap[D]? = some (.deferred (some [])) := (kA.block D hDs (by simp; omega)).trans hD2
    have kB : Keep [g5] (W.setCell ⟨g4, 0, none⟩ (.int .i64 0)) ((W.setCell ⟨g4, 0, none⟩ (.int .i64 0)).setCell ⟨g5, 0, none⟩ (.bool false)) := keep_set _ g5 0 _
    have hD3 := (kB.block D (Array.getElem?_eq_some_iff.1 hD4).1 (by simp; omega)).trans hD4
    have KF := Lib.hid (((K0.then hK).trans kA (fun y hy hlt => by simp at hy; omega)).trans kB (fun y hy hlt => by simp at hy; omega))
    have HM4 := Lib.hid m4
    have HM5 := Lib.hid m5
    have HD3 := Lib.hid hD3
    clear kA kB m4 m5 hD4 hD3 k5' k4 k5 hys
    gi_wp2
    refine ⟨by simp, .inl ⟨_, _, rfl, run_takeDeferred HD3.out, ?_⟩⟩
    have n4 := (blk_putObj (.deferred none) HM4.out HD3.out rfl).cell 0
    have n5 := (blk_putObj (.deferred none) HM5.out HD3.out rfl).cell 0
    simp at n4 n5
    exact ⟨_, by simp [results, Tryd.results50, go_sem, n4, n5], rfl, KF.out.trans (keep_putObj _ D (.deferred none)) (fun y hy hlt => by simp at hy; omega)⟩
  case stop => exact fun _ _ _ _ _ _ h _ => h.elim
set_option maxRecDepth 100000 in
set_option maxHeartbeats 1000000 in
theorem cancel_no (L : List (Nat × Nat)) (A : Option Addr) (bs : List Nat) (g f id : Nat) (w : World) (hc : w.cell? ⟨g, f, none⟩ = some (.pointer A))
    (hT : TmAt w A bs (dlT 0 L)) (hid : id ∉ L.map Prod.fst) :
    Calls Tryd.prog 51 #[.pointer (some ⟨g, f, none⟩), .int .i64 (id : Int)] w fun e w' => e = .returned (.bool false) ∧ w = w' := by
  have HID : Hid (id ∉ L.map Prod.fst) := hid
  have HT := Lib.hid hT
  have HC := Lib.hid hc
  clear hid hT hc
  go_enter Tryd.func51, Tryd.ntmps51
  go_wp2
  go_loopg [5] L.length (fun gk v5 wr => ∃ (pre rest : List (Nat × Nat)) (A' : Option Addr) (bs' : List Nat) (a b' f' : Nat), L = pre ++ rest ∧ rest.length = gk ∧ v5 = .pointer (some ⟨b', f', none⟩) ∧ w.cell? ⟨b', f', none⟩ = some (.pointer A') ∧ TmAt w A' bs' (dlT a rest) ∧ w = wr)
  case atStart => exact ⟨[], L, A, bs, 0, g, f, rfl, rfl, rfl, HC.out, HT.out, rfl⟩
  case round =>
    obtain ⟨pre, rest, A', bs', a, b', f', hL, hlen, rfl, hc, hT, rfl⟩ := hrel
    cases rest with
    | nil =>
      have hA : A' = none := by
        cases bs' with
        | nil => exact hT
        | cons b bs' => exact hT.elim
      subst hA
      clear hL hlen hT
      go_wp2
      go_ret
      exact ⟨rfl, rfl⟩
    | cons p rest =>
      cases bs' with
      | nil => exact hT.elim
      | cons b bs' =>
        obtain ⟨rfl, nx, hblk, hT2⟩ := hT
        have c0 : w.cell? ⟨b, 0, none⟩ = some (.int .i64 (p.1 : Int)) := by rw [hblk.cell]; rfl
        have c2 : w.cell? ⟨b, 2, none⟩ = some (.pointer nx) := by rw [hblk.cell]; rfl
        have hne : ((p.1 : Int) != (id : Int)) = true := by
          refine bne_iff_ne.2 (fun e => HID.out (List.mem_map.2 ⟨p, by rw [hL]; simp, ?_⟩))
          omega
        have HL2 : Hid (L = (pre ++ [p]) ++ rest) := by show _ = _; rw [hL]; simp
        have HT2 := Lib.hid hT2
        have HG : Hid (rest.length < gk) := by show _ < _; rw [← hlen]; simp
        have HC2 := Lib.hid c2
        clear hL hlen hT2 hblk
        go_wp2
        go_roundg rest.length
        case rel => exact ⟨pre ++ [p], rest, nx, bs', p.2, b, 2, HL2.out, rfl, rfl, HC2.out, HT2.out, rfl⟩
        case measure => exact HG.out
end Go.Proofs.YteflgdnekflbbaaDoor

namespace Go.Proofs.YteflgdnekflbbaaDoor
open Go.RowKit

theorem dlT_cons (a : Nat) (p : Nat × Nat) (l : List (Nat × Nat)) : dlT a (p :: l) = (p.1, p.2 - a) :: dlT p.2 l := rfl
/-- A timer is put behind another one. -/
theorem TmAt.insert {w w' : World} {lb : Nat} {q : Nat × Nat} {rest : List (Nat × Nat)} {bs' : List Nat} {n : Nat} {x : Nat × Nat} {rest' : List (Nat × Nat)} {bs2 : List Nat}
    (hl : ∀ cs, Blk w lb 98 cs → Blk w' lb 98 (cs.setIfInBounds 2 (.pointer (some ⟨n, 0, none⟩)))) (hN : TmAt w' (some ⟨n, 0, none⟩) bs2 (dlT q.2 (x :: rest'))) :
    ∀ {A : Option Addr} {pb : List Nat} {pre : List (Nat × Nat)} {a : Nat}, pb.length = pre.length → TmAt w A (pb ++ lb :: bs') (dlT a (pre ++ q :: rest)) → (∀ b ∈ pb, w'.heap[b]? = w.heap[b]?) → TmAt w' A (pb ++ lb :: bs2) (dlT a (pre ++ q :: x :: rest'))
  | A, [], [], a, _, h, _ => by
    obtain ⟨e, nx, h1, _⟩ := h
    refine ⟨e, some ⟨n, 0, none⟩, ?_, hN⟩
    exact hl _ h1
  | A, [], _ :: _, _, hlen, _, _ => by simp at hlen
  | A, _ :: _, [], _, hlen, _, _ => by simp at hlen
  | A, b :: pb, p :: pre, a, hlen, h, hs => by
    obtain ⟨e, nx, h1, h2⟩ := h
    exact ⟨e, nx, (hs b (by simp)).trans h1, TmAt.insert hl hN (by simpa using hlen) h2 (fun c hc => hs c (by simp [hc]))⟩
theorem addR_split {pre rest : List (Nat × Nat)} {i t : Nat} (h1 : ∀ p ∈ pre, p.2 ≤ t) (h2 : ∀ p, rest.head? = some p → t < p.2) : addR (pre ++ rest) i t = pre ++ (i, t) :: rest := by
  induction pre with
  | nil =>
    cases rest with
    | nil => rfl
    | cons p rest =>
      have := h2 p rfl
      show addR (p :: rest) i t = _
      rw [addR, if_neg (by omega)]
      rfl
  | cons p pre ih =>
    show addR (p :: (pre ++ rest)) i t = _
    rw [addR, if_pos (h1 p (by simp)), ih (fun q hq => h1 q (by simp [hq]))]
    rfl
/-- A row of timers, and where it begins. -/
structure TqAt (w : World) (g t f : Nat) (cs : Array Value) (L : List (Nat × Nat)) (bs : List Nat) : Prop where
  blk : Blk w g t cs
  ptr : ∃ A, cs[f]? = some (.pointer A) ∧ TmAt w A bs (dlT 0 L)
  many : cs[f + 1]? = some (.int .i64 (L.length : Int))
  nodup : bs.Nodup
  off : g ∉ bs
  sort : SortT L
  le : ∀ p ∈ L, p.2 ≤ 65536
/-- Behind a change of the timers: their own blocks, or new ones. -/
def TqPost (w : World) (g t f : Nat) (cs : Array Value) (L' : List (Nat × Nat)) (bs : List Nat) (w' : World) : Prop :=
  ∃ A' bs', TqAt w' g t f ((cs.setIfInBounds f (.pointer A')).setIfInBounds (f + 1) (.int .i64 (L'.length : Int))) L' bs' ∧ (∀ b ∈ bs', b ∈ bs ∨ w.heap.size ≤ b) ∧ Keep (g :: bs) w w'
theorem dlT_len : ∀ (l : List (Nat × Nat)) (a : Nat), (dlT a l).length = l.length
  | [], _ => rfl
  | p :: l, a => by rw [dlT_cons, List.length_cons, dlT_len l]; rfl
/-- The new timer's place is written. -/
theorem tq_put {w V : World} {g t f : Nat} {cs : Array Value} {A : Option Addr} {pb bs' bs2 : List Nat} {pre rest rest' : List (Nat × Nat)} {a b' f' nb id n : Nat} (hB : Blk V g t cs) (hA : cs[f]? = some (.pointer A)) (hT : TmAt w A (pb ++ bs') (dlT 0 (pre ++ rest)))
    (hV : ∀ b ∈ pb, V.heap[b]? = w.heap[b]?) (hnd : (pb ++ nb :: bs2).Nodup) (hoff : g ∉ pb ++ nb :: bs2) (hlen : bs'.length = rest.length)
    (hpos : (pre = [] ∧ pb = [] ∧ b' = g ∧ f' = f ∧ a = 0) ∨ ∃ pre' q pb', pre = pre' ++ [q] ∧ pb = pb' ++ [b'] ∧ pb'.length = pre'.length ∧ f' = 2 ∧ a = q.2 ∧ ∃ cs0, Blk w b' 98 cs0)
    (hN : TmAt V (some ⟨nb, 0, none⟩) (nb :: bs2) (dlT a ((id, n) :: rest'))) :
    V.frozen? ⟨b', f', none⟩ = false ∧ ∃ A0, Blk (V.setCell ⟨b', f', none⟩ (.pointer (some ⟨nb, 0, none⟩))) g t (cs.setIfInBounds f (.pointer A0)) ∧ TmAt (V.setCell ⟨b', f', none⟩ (.pointer (some ⟨nb, 0, none⟩))) A0 (pb ++ nb :: bs2) (dlT 0 (pre ++ (id, n) :: rest')) := by
  have hks : ∀ i, Keep [b'] V (V.setCell ⟨b', i, none⟩ (.pointer (some ⟨nb, 0, none⟩))) := fun i => keep_set V b' i _
  rcases hpos with ⟨rfl, rfl, rfl, rfl, rfl⟩ | ⟨pre', q, pb', rfl, rfl, hpl, rfl, rfl, cs0, hb0⟩
  · refine ⟨hB.frozen _, some ⟨nb, 0, none⟩, hB.set_ _ _, ?_⟩
    exact hN.keep (hks _) (fun b hb hm => by simp only [List.mem_cons, List.not_mem_nil, or_false] at hm; subst hm; exact hoff (by simpa using hb))
  · have hbV : Blk V b' 98 cs0 := (hV b' (by simp)).trans hb0
    have hgb : g ≠ b' := fun e => hoff (by simp [e])
    refine ⟨hbV.frozen _, A, ?_, ?_⟩
    · have e : cs.setIfInBounds f (.pointer A) = cs := by
        refine Array.ext (by simp) (fun i h1 h2 => ?_)
        rw [Array.getElem_setIfInBounds (by simpa using h1)]
        split
        · rename_i e
          subst e
          rw [Array.getElem?_eq_getElem h2] at hA
          exact (Option.some.inj hA).symm
        · rfl
      rw [e]
      exact hB.far hgb _
    · have hnb : b' ∉ nb :: bs2 := fun hm => by
        rw [List.nodup_append] at hnd
        exact hnd.2.2 b' (by simp) b' hm rfl
      have hN' := hN.keep (hks 2) (fun b hb hm => by simp only [List.mem_cons, List.not_mem_nil, or_false] at hm; subst hm; exact hnb hb)
      have e1 : (pb' ++ [b']) ++ nb :: bs2 = pb' ++ b' :: (nb :: bs2) := by simp
      have e2 : (pre' ++ [q]) ++ (id, n) :: rest' = pre' ++ q :: (id, n) :: rest' := by simp
      have e3 : (pb' ++ [b']) ++ bs' = pb' ++ b' :: bs' := by simp
      have e4 : (pre' ++ [q]) ++ rest = pre' ++ q :: rest := by simp
      rw [e1, e2]
      rw [e3, e4] at hT
      refine TmAt.insert (n := nb) (fun cs1 h1 => ?_) hN' hpl hT (fun b hb => ?_)
      · have : Blk V b' 98 cs1 := (hV b' (by simp)).trans h1
        exact this.set_ 2 _
      · have hne : b ≠ b' := fun e => by
          subst e
          rw [List.append_assoc, List.nodup_append] at hnd
          exact hnd.2.2 b hb b (by simp) rfl
        have hbl : b < V.heap.size := by
          have h1 := hV b (by simp [hb])
          have h2 := hT.lt b (by simp [hb])
          rcases Nat.lt_or_ge b V.heap.size with h3 | h3
          · exact h3
          · rw [Array.getElem?_eq_none h3, Array.getElem?_eq_getElem h2] at h1; cases h1
        exact ((hks 2).block b hbl (by simpa using hne)).trans (hV b (by simp [hb]))
set_option maxRecDepth 100000 in
set_option maxHeartbeats 2000000 in
theorem add_any (g t f : Nat) (cs : Array Value) (L : List (Nat × Nat)) (bs : List Nat) (id n : Nat) (w : World) (h : TqAt w g t f cs L bs) (hid : id ∉ L.map Prod.fst) (hn : 1 ≤ n ∧ n ≤ 65536) (hl : L.length < 64) :
    Calls Tryd.prog 33 #[.pointer (some ⟨g, f, none⟩), .int .i64 (id : Int), .int .i64 (n : Int)] w fun e w' => e = .returned (.bool true) ∧ TqPost w g t f cs (addR L id n) bs w' := by
  obtain ⟨hblk, ⟨A, hA, hT⟩, hmany, hnd, hoff, hs, hle⟩ := h
  have hc : w.cell? ⟨g, f, none⟩ = some (.pointer A) := by rw [hblk.cell, hA]
  have HDue := Lib.hid (due_no L A bs g f id w hblk.lt hc hT hnd hs hle hid)
  have p1 : ¬ (n : Int) < 1 := by omega
  have p2 : ¬ (65536 : Int) < (n : Int) := by omega
  have HB := Lib.hid hblk
  have HT := Lib.hid hT
  have HA := Lib.hid hA
  have HMY := Lib.hid hmany
  clear hT hA hmany
  go_enter Tryd.func33, Tryd.ntmps33
  go_wp2_with fail
  refine HDue.out.mono ?_
  rintro e w1 ⟨rfl, k1⟩
  have hb1 := HB.out.keep0 k1
  have hT1 := HT.out.keep k1 (fun _ _ => by simp)
  have hc1 : w1.cell? ⟨g, f, none⟩ = some (.pointer A) := by rw [hb1.cell, HA.out]
  have hm1 : w1.cell? ⟨g, f + 1, none⟩ = some (.int .i64 (L.length : Int)) := by rw [hb1.cell, HMY.out]
  have p3 : ¬ (64 : Int) ≤ (L.length : Int) := by omega
  have HCn := Lib.hid (cancel_no L A bs g f id w1 hc1 hT1 hid)
  have HK1 := Lib.hid k1
  have HB1 := Lib.hid hb1
  have HT1 := Lib.hid hT1
  have HC1 := Lib.hid hc1
  clear HDue k1 hb1 hT1 hc hblk
  go_wp2_with fail
  refine HCn.out.mono ?_
  rintro e w2 ⟨rfl, rfl⟩
  clear HCn p3 hm1 p1 p2
  go_wp2
  go_loopg [2, 9] L.length (fun gk v2 v9 wr => ∃ (pre rest : List (Nat × Nat)) (A' : Option Addr) (pb bs' : List Nat) (a b' f' : Nat), L = pre ++ rest ∧ bs = pb ++ bs' ∧ rest.length = gk ∧ v2 = .int .i64 ((n - a : Nat) : Int) ∧ v9 = .pointer (some ⟨b', f', none⟩) ∧ w1.cell? ⟨b', f', none⟩ = some (.pointer A') ∧
    TmAt w1 A' bs' (dlT a rest) ∧ a ≤ n ∧ (∀ p ∈ pre, p.2 ≤ n) ∧ (∀ p ∈ rest, a ≤ p.2) ∧ ((pre = [] ∧ pb = [] ∧ b' = g ∧ f' = f ∧ a = 0) ∨ ∃ pre' q pb', pre = pre' ++ [q] ∧ pb = pb' ++ [b'] ∧ pb'.length = pre'.length ∧ f' = 2 ∧ a = q.2 ∧ ∃ cs0, Blk w1 b' 98 cs0) ∧ w1 = wr)
  case atStart => exact ⟨[], L, A, [], bs, 0, g, f, rfl, rfl, rfl, rfl, rfl, HC1.out, HT1.out, Nat.zero_le _, (fun p hp => by cases hp), (fun p _ => Nat.zero_le _), .inl ⟨rfl, rfl, rfl, rfl, rfl⟩, rfl⟩
  case round =>
    obtain ⟨pre, rest, A', pb, bs', a, b', f', hL, hb, hlen, rfl, rfl, hc, hT, han, hpn, hra, hpos, rfl⟩ := hrel
    have hplen : pb.length = pre.length := by
      rcases hpos with ⟨h1, h2, _⟩ | ⟨pre', q, pb', h1, h2, h3, _⟩
      · rw [h1, h2]; rfl
      · rw [h1, h2]; simp [h3]
    by_cases hgo : ∃ p rest', rest = p :: rest' ∧ p.2 ≤ n
    · obtain ⟨p, rest', rfl, hpl⟩ := hgo
      cases bs' with
      | nil => exact hT.elim
      | cons b bs' =>
        obtain ⟨rfl, nx, hblk, hT2⟩ := hT
        have c1 : w1.cell? ⟨b, 1, none⟩ = some (.int .i64 ((p.2 - a : Nat) : Int)) := by rw [hblk.cell]; rfl
        have c2 : w1.cell? ⟨b, 2, none⟩ = some (.pointer nx) := by rw [hblk.cell]; rfl
        have hap := hra p (by simp)
        have hcmp : ((p.2 - a : Nat) : Int) ≤ ((n - a : Nat) : Int) := by omega
        have hw : IntKind.i64.wrap (((n - a : Nat) : Int) - ((p.2 - a : Nat) : Int)) = ((n - p.2 : Nat) : Int) := by rw [IntWalk.i64_in _ (by omega)]; omega
        have HL2 : Hid (L = (pre ++ [p]) ++ rest' ∧ bs = (pb ++ [b]) ++ bs') := ⟨by rw [hL]; simp, by rw [hb]; simp⟩
        have HT2 := Lib.hid hT2
        have HG : Hid (rest'.length < gk) := by show _ < _; rw [← hlen]; simp
        have HC2 := Lib.hid c2
        have HPN : Hid (∀ q ∈ pre ++ [p], q.2 ≤ n) := fun q hq => by
          rcases List.mem_append.1 hq with hq | hq
          · exact hpn q hq
          · simp at hq; subst hq; exact hpl
        have HRA : Hid (∀ q ∈ rest', p.2 ≤ q.2) := fun q hq => by
          have h1 := hs
          rw [hL, SortT, List.pairwise_append] at h1
          exact (List.pairwise_cons.1 h1.2.1).1 q hq
        have HPL := Lib.hid hplen
        have HPO := Lib.hid hpl
        have HBK := Lib.hid hblk
        clear hL hb hlen hT2 hblk hpn hra hpos hplen hap hpl
        go_wp2
        go_roundg rest'.length
        case rel => exact ⟨pre ++ [p], rest', nx, pb ++ [b], bs', p.2, b, 2, HL2.out.1, HL2.out.2, rfl, rfl, rfl, HC2.out, HT2.out, HPO.out, HPN.out, HRA.out, .inr ⟨pre, p, pb, rfl, rfl, HPL.out, rfl, rfl, _, HBK.out⟩, rfl⟩
        case measure => exact HG.out
    · have hhead : ∀ p, rest.head? = some p → n < p.2 := fun p hp => by
        refine Nat.lt_of_not_le (fun hc => hgo ?_)
        cases rest with
        | nil => cases hp
        | cons q rest' => cases hp; exact ⟨p, rest', rfl, hc⟩
      have hadd : addR L id n = pre ++ (id, n) :: rest := by rw [hL]; exact addR_split hpn hhead
      have hlen2 := hT.len
      have hdl := dlT_len rest a
      obtain ⟨V, hV⟩ : ∃ V, w1.alloc (.cells #[.int .i64 (id : Int), .int .i64 ((n - a : Nat) : Int), .pointer A'] 98) = V := ⟨_, rfl⟩
      have bn : Blk V w1.heap.size 98 #[.int .i64 (id : Int), .int .i64 ((n - a : Nat) : Int), .pointer A'] := by rw [← hV]; exact Blk.new _ _ _
      have KV : Keep [] w1 V := by rw [← hV]; exact (Keep.refl _ w1).alloc _
      have HV := Lib.hid hV
      have hbsl := HT1.out.lt
      have hgl := HB1.out.lt
      have q2 : V.cell? ⟨w1.heap.size, 2, none⟩ = some (.pointer A') := by rw [bn.cell]; rfl
      have hnew : w1.heap.size ∉ bs := fun hm => absurd (hbsl _ hm) (Nat.lt_irrefl _)
      have hndp : (pb ++ w1.heap.size :: bs').Nodup := by
        rw [hb] at hnd hnew
        rw [List.nodup_append] at hnd ⊢
        refine ⟨hnd.1, List.nodup_cons.2 ⟨fun hm => hnew (by simp [hm]), hnd.2.1⟩, fun x hx y hy e => ?_⟩
        rcases List.mem_cons.1 hy with rfl | hy
        · subst e; exact hnew (by simp [hx])
        · exact hnd.2.2 x hx y hy e
      have hoffp : g ∉ pb ++ w1.heap.size :: bs' := fun hm => by
        rcases List.mem_append.1 hm with hm | hm
        · exact hoff (by rw [hb]; simp [hm])
        · rcases List.mem_cons.1 hm with e | hm
          · omega
          · exact hoff (by rw [hb]; simp [hm])
      have hbV := HB1.out.keep0 KV
      have hcV := (KV.cell (p := ⟨b', f', none⟩) (by
        rcases hpos with ⟨_, _, rfl, _⟩ | ⟨_, _, _, _, _, _, _, _, _, hb0⟩
        · exact hgl
        · exact hb0.lt) (by simp)).trans hc
      have hb'm : b' = g ∨ b' ∈ bs := by
        rcases hpos with ⟨_, _, h1, _⟩ | ⟨_, _, pb', _, h1, _⟩
        · exact .inl h1
        · exact .inr (by rw [hb, h1]; simp)
      clear hV
      have hlen1 : ∀ A0, (cs.setIfInBounds f (.pointer A0))[f + 1]? = some (.int .i64 (L.length : Int)) := fun A0 => by
        rw [Array.getElem?_setIfInBounds_ne (by omega)]; exact HMY.out
      have hT0 : TmAt w1 A (pb ++ bs') (dlT 0 (pre ++ rest)) := by rw [← hL, ← hb]; exact HT1.out
      have HSO : Hid (SortT (addR L id n)) := addR_sort hs id n
      have HLE : Hid (∀ p ∈ addR L id n, p.2 ≤ 65536) := fun p hp => by
        rcases addR_mem.1 hp with rfl | hp
        · exact hn.2
        · exact hle p hp
      have HND := Lib.hid hndp
      have HOF := Lib.hid hoffp
      have HB2 : Hid (∀ x ∈ pb ++ w1.heap.size :: bs', x ∈ bs ∨ w.heap.size ≤ x) := fun x hx => by
        have h1 := HK1.out.size
        rcases List.mem_append.1 hx with hx | hx
        · exact .inl (by rw [hb]; simp [hx])
        · rcases List.mem_cons.1 hx with rfl | hx
          · exact .inr h1
          · exact .inl (by rw [hb]; simp [hx])
      have HAD := Lib.hid hadd
      have HLN : Hid ((addR L id n).length = L.length + 1) := addR_len L id n
      -- what is left to show, whatever the last worlds are
      have fin : ∀ (W2 : World) (A0 : Option Addr), Blk W2 g t (cs.setIfInBounds f (.pointer A0)) → TmAt W2 A0 (pb ++ w1.heap.size :: bs') (dlT 0 (pre ++ (id, n) :: rest)) → Keep (g :: bs) w W2 → TqPost w g t f cs (addR L id n) bs (W2.setCell ⟨g, f + 1, none⟩ (.int .i64 ((L.length : Int) + 1))) := by
        intro W2 A0 hG2 hT2 hK2
        have ks := keep_set W2 g (f + 1) (.int .i64 ((L.length : Int) + 1))
        have hc2 : ((addR L id n).length : Int) = (L.length : Int) + 1 := by rw [HLN.out]; omega
        refine ⟨A0, pb ++ w1.heap.size :: bs', ⟨by rw [hc2]; exact hG2.set_ _ _, ⟨A0, ?_, ?_⟩, ?_, HND.out, HOF.out, HSO.out, HLE.out⟩, HB2.out, hK2.trans ks (fun y hy _ => by simp at hy; simp [hy])⟩
        · rw [Array.getElem?_setIfInBounds_ne (by omega)]
          have : f < cs.size := (Array.getElem?_eq_some_iff.1 HA.out).1
          simp [this]
        · rw [HAD.out]
          exact hT2.keep ks (fun b hb hm => by simp only [List.mem_cons, List.not_mem_nil, or_false] at hm; subst hm; exact HOF.out hb)
        · rw [hc2]
          have : f + 1 < cs.size := (Array.getElem?_eq_some_iff.1 HMY.out).1
          simp [this]
      have HFIN : Hid (∀ (W2 : World) (A0 : Option Addr), Blk W2 g t (cs.setIfInBounds f (.pointer A0)) → TmAt W2 A0 (pb ++ w1.heap.size :: bs') (dlT 0 (pre ++ (id, n) :: rest)) → Keep (g :: bs) w W2 → TqPost w g t f cs (addR L id n) bs (W2.setCell ⟨g, f + 1, none⟩ (.int .i64 ((L.length : Int) + 1)))) := fin
      have hKb : ∀ W : World, Keep (g :: bs) w W → ∀ v, Keep (g :: bs) w (W.setCell ⟨b', f', none⟩ v) := fun W hW v => hW.trans (keep_set W b' f' v) (fun y hy _ => by
        simp only [List.mem_cons, List.not_mem_nil, or_false] at hy
        subst hy
        rcases hb'm with h1 | h1
        · simp [h1]
        · simp [h1])
      have hKV : Keep (g :: bs) w V := ((HK1.out.then KV).mono (fun x hx _ => by cases hx))
      have hwn : IntKind.i64.wrap ((L.length : Int) + 1) = (L.length : Int) + 1 := IntWalk.i64_in _ (by omega)
      have hpbV : ∀ b ∈ pb, V.heap[b]? = w1.heap[b]? := fun b hb' => KV.block b (hbsl b (by rw [hb]; simp [hb'])) (by simp)
      cases rest with
      | nil =>
        have hbs : bs' = [] := by
          cases bs' with
          | nil => rfl
          | cons b bs' => exact hT.elim
        subst hbs
        have hA' : A' = none := hT
        subst hA'
        obtain ⟨hfz, A0, hG2, hT2⟩ := tq_put (w := w1) (V := V) (bs' := []) (bs2 := []) (rest := []) (rest' := []) (id := id) (n := n) hbV HA.out hT0 hpbV hndp hoffp rfl hpos ⟨rfl, none, bn, rfl⟩
        have hm2 : (V.setCell ⟨b', f', none⟩ (.pointer (some ⟨w1.heap.size, 0, none⟩))).cell? ⟨g, f + 1, none⟩ = some (.int .i64 (L.length : Int)) := by rw [hG2.cell]; exact hlen1 A0
        have hf2 := hG2.frozen (f + 1)
        have HP := Lib.hid (HFIN.out _ A0 hG2 hT2 (hKb V hKV _))
        clear fin hT hT0 hL hb hlen hgo hpn hra hpos hadd hhead hdl hlen2 bn KV hndp hoffp hnew hbV hb'm hKb hKV hpbV hG2 hT2 hlen1 hs hle hbsl hnd hoff hgl
        go_wp2_with (rw [HV.out])
        go_ret
        exact ⟨rfl, HP.out⟩
      | cons p rest' =>
        cases bs' with
        | nil => exact hT.elim
        | cons b bs' =>
          obtain ⟨rfl, nx, hblk, hT3⟩ := hT
          have hpn2 : n < p.2 := hhead p rfl
          have hle2 := hle p (by rw [hL]; simp)
          have hbb : b ∈ bs := by rw [hb]; simp
          have hbpb : b ∉ pb := fun hm => by
            have := HND.out
            rw [List.nodup_append] at this
            exact this.2.2 b hm b (by simp) rfl
          have hgb : g ≠ b := fun e => hoff (by rw [e]; exact hbb)
          have hb'b : b' ≠ b := by
            rcases hpos with ⟨_, _, rfl, _⟩ | ⟨_, _, pb', _, h1, _⟩
            · exact hgb
            · exact fun e => hbpb (by rw [h1, ← e]; simp)
          have hnb : w1.heap.size ≠ b := fun e => hnew (by rw [e]; exact hbb)
          have hbkV := hblk.keep0 KV
          have c1V : V.cell? ⟨b, 1, none⟩ = some (.int .i64 ((p.2 - a : Nat) : Int)) := by rw [hbkV.cell]; rfl
          have f1V := hbkV.frozen 1
          have c1w : w1.cell? ⟨b, 1, none⟩ = some (.int .i64 ((p.2 - a : Nat) : Int)) := by rw [hblk.cell]; rfl
          have hwr : IntKind.i64.wrap (((p.2 - a : Nat) : Int) - ((n - a : Nat) : Int)) = ((p.2 - n : Nat) : Int) := by rw [IntWalk.i64_in _ (by omega)]; omega
          have hgt : ¬ ((p.2 - a : Nat) : Int) ≤ ((n - a : Nat) : Int) := by omega
          have ks := keep_set V b 1 (.int .i64 ((p.2 - n : Nat) : Int))
          have hN : TmAt (V.setCell ⟨b, 1, none⟩ (.int .i64 ((p.2 - n : Nat) : Int))) (some ⟨w1.heap.size, 0, none⟩) (w1.heap.size :: b :: bs') (dlT a ((id, n) :: p :: rest')) := by
            refine ⟨rfl, some ⟨b, 0, none⟩, bn.keep ks (by simpa using hnb), rfl, nx, ?_, ?_⟩
            · have := hbkV.set_ 1 (.int .i64 ((p.2 - n : Nat) : Int))
              exact this
            · refine (hT3.keep KV (fun _ _ => by simp)).keep ks (fun x hx hm => ?_)
              simp only [List.mem_cons, List.not_mem_nil, or_false] at hm
              subst hm
              have := HND.out
              rw [List.nodup_append] at this
              exact (List.nodup_cons.1 (List.nodup_cons.1 this.2.1).2).1 hx
          obtain ⟨hfz, A0, hG2, hT2⟩ := tq_put (w := w1) (V := V.setCell ⟨b, 1, none⟩ (.int .i64 ((p.2 - n : Nat) : Int))) (bs' := b :: bs') (bs2 := b :: bs') (rest := p :: rest') (rest' := p :: rest') (id := id) (n := n) (hbV.keep ks (by simpa using hgb)) HA.out hT0
            (fun x hx => (ks.block x (by have := hbsl x (by rw [hb]; simp [hx]); have := KV.size; omega) (by simp; exact fun e => hbpb (by rw [← e]; exact hx))).trans (hpbV x hx)) hndp hoffp (by rw [hlen2, hdl]) hpos hN
          have hcV2 : (V.setCell ⟨b, 1, none⟩ (.int .i64 ((p.2 - n : Nat) : Int))).cell? ⟨b', f', none⟩ = some (.pointer (some ⟨b, 0, none⟩)) := (ks.cell (p := ⟨b', f', none⟩) (by
            rcases hpos with ⟨_, _, rfl, _⟩ | ⟨_, _, _, _, _, _, _, _, _, hb0⟩
            · have := KV.size; dsimp only; omega
            · have := hb0.lt; have := KV.size; dsimp only; omega) (by simpa using hb'b)).trans hcV
          have hm2 : ((V.setCell ⟨b, 1, none⟩ (.int .i64 ((p.2 - n : Nat) : Int))).setCell ⟨b', f', none⟩ (.pointer (some ⟨w1.heap.size, 0, none⟩))).cell? ⟨g, f + 1, none⟩ = some (.int .i64 (L.length : Int)) := by rw [hG2.cell]; exact hlen1 A0
          have hf2 := hG2.frozen (f + 1)
          have HP := Lib.hid (HFIN.out _ A0 hG2 hT2 (hKb _ (hKV.trans ks (fun y hy _ => by simp only [List.mem_cons, List.not_mem_nil, or_false] at hy; subst hy; simp [hbb])) _))
          clear fin hT0 hL hb hlen hgo hpn hra hpos hadd hhead hdl hlen2 bn KV hndp hoffp hnew hbV hb'm hKb hKV hpbV hG2 hT2 hlen1 hs hle hbsl hnd hoff hgl hT3 hblk hbkV ks hN hcV hbpb hgb hb'b hnb hpn2 hle2 hbb han
          go_wp2_with (rw [HV.out])
          go_ret
          exact ⟨rfl, HP.out⟩
end Go.Proofs.YteflgdnekflbbaaDoor

namespace Go.Proofs.YteflgdnekflbbaaDoor
open Go.RowKit

theorem slice_intT : SliceOf Tryd.prog 29 3 1 8 := ⟨Tryd.underlying29, by kernel_rfl, by decide⟩
theorem dlT_less : ∀ (l : List (Nat × Nat)) (a : Nat), 1 ≤ a → (∀ p ∈ l, 1 ≤ p.2) → dlT (a - 1) (lessT l) = dlT a l
  | [], _, _, _ => rfl
  | p :: l, a, ha, h => by
    have hp := h p (by simp)
    show (p.1, p.2 - 1 - (a - 1)) :: dlT (p.2 - 1) (lessT l) = (p.1, p.2 - a) :: dlT p.2 l
    rw [dlT_less l p.2 hp (fun q hq => h q (by simp [hq])), show p.2 - 1 - (a - 1) = p.2 - a by omega]
theorem arr_self {cs : Array Value} {f : Nat} {v : Value} (h : cs[f]? = some v) : cs.setIfInBounds f v = cs := by
  refine Array.ext (by simp) (fun i h1 h2 => ?_)
  rw [Array.getElem_setIfInBounds (by simpa using h1)]
  split
  · rename_i e
    subst e
    rw [Array.getElem?_eq_getElem h2] at h
    exact (Option.some.inj h).symm
  · rfl
theorem popR_pre : ∀ {pre rest : List (Nat × Nat)}, (∀ p ∈ pre, p.2 = 1) → (∀ p, rest.head? = some p → p.2 ≠ 1) → popR (pre ++ rest) = (pre.map Prod.fst, lessT rest)
  | [], rest, _, h2 => by
    cases rest with
    | nil => rfl
    | cons p rest =>
      show popR (p :: rest) = _
      rw [popR, if_neg (h2 p rfl)]
      rfl
  | p :: pre, rest, h1, h2 => by
    show popR (p :: (pre ++ rest)) = _
    rw [popR, if_pos (h1 p (by simp)), popR_pre (fun q hq => h1 q (by simp [hq])) h2]
    rfl
theorem TmAt.blks {w : World} : ∀ {A : Option Addr} {bs : List Nat} {l : List (Nat × Nat)}, TmAt w A bs l → ∀ b ∈ bs, ∃ cs, Blk w b 98 cs
  | _, [], [], _, _, hb => by cases hb
  | _, [], _ :: _, h, _, _ => h.elim
  | _, _ :: _, [], h, _, _ => h.elim
  | _, b :: bs, p :: l, h, a, ha => by
    obtain ⟨_, nx, h1, h2⟩ := h
    rcases List.mem_cons.1 ha with rfl | ha
    · exact ⟨_, h1⟩
    · exact h2.blks a ha
theorem row_baseT {w : World} {b0 e size n : Nat} {v : Value} {xs : List Value} (h : w.ownsRow b0 e size v n xs) : ∀ y, y ∈ v.ownBlock.toList → b0 ≤ y := by
  intro y hy
  rcases h.2 with ⟨rfl, _⟩ | ⟨g', cap, cur, rfl, hb, _⟩
  · simp [Value.ownBlock] at hy
  · simp [Value.ownBlock] at hy
    subst hy
    exact hb
def natI (l : List Nat) : List Value := l.map (fun (k : Nat) => Value.int .i64 (k : Int))
set_option maxRecDepth 100000 in
set_option maxHeartbeats 2000000 in
theorem dtick_any (g t f : Nat) (cs : Array Value) (L : List (Nat × Nat)) (bs : List Nat) (w : World) (h : TqAt w g t f cs L bs) (hpos : ∀ p ∈ L, 1 ≤ p.2) (hti : t ≠ 3) (hl : L.length ≤ 64) :
    Calls Tryd.prog 21 #[.pointer (some ⟨g, f, none⟩)] w fun e w' => ∃ A c, e = .returned (.slice A (popR L).1.length c) ∧ w'.ownsRow w.heap.size 3 1 (.slice A (popR L).1.length c) (popR L).1.length (natI (popR L).1) ∧
      TqPost w g t f cs (popR L).2 bs w' := by
  obtain ⟨hblk, ⟨A, hA, hT⟩, hmany, hnd, hoff, hs, hle⟩ := h
  have hc : w.cell? ⟨g, f, none⟩ = some (.pointer A) := by rw [hblk.cell, hA]
  cases L with
  | nil =>
    have hbs : bs = [] := by
      cases bs with
      | nil => rfl
      | cons b bs => exact hT.elim
    subst hbs
    have hA' : A = none := hT
    subst hA'
    have HF : Hid (TqPost w g t f cs [] [] w) := ⟨none, [], ⟨by rw [arr_self hA]; rw [arr_self hmany]; exact hblk, ⟨none, by rw [arr_self hA, arr_self hmany]; exact hA, rfl⟩, by rw [arr_self hA, arr_self hmany]; exact hmany, List.nodup_nil, by simp, List.Pairwise.nil, (fun p hp => by cases hp)⟩, (fun b hb => by cases hb), Keep.refl _ _⟩
    clear hblk hA hT hmany hnd hoff hs hle hpos hl
    go_enter Tryd.func21, Tryd.ntmps21
    go_wp2
    go_ret
    exact ⟨none, 0, rfl, World.ownsRow_nil _ _ _ _, HF.out⟩
  | cons p0 L0 =>
    cases bs with
    | nil => exact hT.elim
    | cons b0 bs0 =>
      obtain ⟨rfl, nx0, hbk0, hT0⟩ := hT
      have c1 : w.cell? ⟨b0, 1, none⟩ = some (.int .i64 ((p0.2 - 0 : Nat) : Int)) := by rw [hbk0.cell]; rfl
      have f1 := hbk0.frozen 1
      have hp0 := hpos p0 (by simp)
      have hp0l := hle p0 (by simp)
      have hw1 : IntKind.i64.wrap (((p0.2 - 0 : Nat) : Int) - 1) = ((p0.2 - 1 : Nat) : Int) := by rw [IntWalk.i64_in _ (by omega)]; omega
      rw [show ((p0.2 - 0 : Nat)) = p0.2 from rfl] at c1 hw1
      have ks := keep_set w b0 1 (.int .i64 ((p0.2 - 1 : Nat) : Int))
      have hgb : g ≠ b0 := fun e => hoff (by simp [e])
      have hnd2 := List.nodup_cons.1 hnd
      obtain ⟨W, hW⟩ : ∃ W, w.setCell ⟨b0, 1, none⟩ (.int .i64 ((p0.2 - 1 : Nat) : Int)) = W := ⟨_, rfl⟩
      have hbW : Blk W g t cs := by rw [← hW]; exact hblk.keep ks (by simpa using hgb)
      have hTW : TmAt W (some ⟨b0, 0, none⟩) (b0 :: bs0) (dlT 1 (p0 :: L0)) := by
        rw [← hW]
        refine ⟨rfl, nx0, ?_, hT0.keep ks (fun x hx hm => ?_)⟩
        · have := hbk0.set_ 1 (.int .i64 ((p0.2 - 1 : Nat) : Int))
          exact this
        · simp only [List.mem_cons, List.not_mem_nil, or_false] at hm
          subst hm
          exact hnd2.1 hx
      have KW : Keep (g :: b0 :: bs0) w W := by rw [← hW]; exact ks.mono (fun x hx _ => by simp at hx; simp [hx])
      have hgl := hblk.lt
      have hzW : W.heap.size = w.heap.size := by rw [← hW]; simp
      have hbsl : ∀ b ∈ b0 :: bs0, b < w.heap.size := fun b hb => by rw [← hzW]; exact hTW.lt b hb
      have e0 : (cs.setIfInBounds f (.pointer (some ⟨b0, 0, none⟩))).setIfInBounds (f + 1) (.int .i64 ((p0 :: L0).length : Int)) = cs := by rw [arr_self hA, arr_self hmany]
      have hsz : f < cs.size ∧ f + 1 < cs.size := ⟨(Array.getElem?_eq_some_iff.1 hA).1, (Array.getElem?_eq_some_iff.1 hmany).1⟩
      generalize hLL : p0 :: L0 = L at *
      generalize hBB : b0 :: bs0 = bs at *
      have HW := Lib.hid hW
      have HBW := Lib.hid hbW
      have HTW := Lib.hid hTW
      have HKW := Lib.hid KW
      have HE0 := Lib.hid e0
      have HLL := Lib.hid hLL
      have HBB := Lib.hid hBB
      clear hblk hbk0 hT0 ks hbW hTW KW hW hLL hBB hA hmany e0 hnd2
      go_enter Tryd.func21, Tryd.ntmps21
      go_wp2
      rw [HW.out]
      go_loopg [3] L.length (fun gk v3 wr => ∃ (vo : Value) (pre rest : List (Nat × Nat)) (A' : Option Addr) (pb bs' : List Nat), vo = v3 ∧ L = pre ++ rest ∧ bs = pb ++ bs' ∧ rest.length = gk ∧ (∀ p ∈ pre, p.2 = 1) ∧ Blk wr g t ((cs.setIfInBounds f (.pointer A')).setIfInBounds (f + 1) (.int .i64 (rest.length : Int))) ∧
        TmAt wr A' bs' (dlT 1 rest) ∧ wr.ownsRow w.heap.size 3 1 vo pre.length (natI (pre.map Prod.fst)) ∧ Keep (g :: bs) w wr)
      case atStart => exact ⟨_, [], L, some ⟨b0, 0, none⟩, [], bs, rfl, rfl, rfl, rfl, (fun p hp => by cases hp), by rw [HE0.out]; exact HBW.out, HTW.out, World.ownsRow_nil _ _ _ _, HKW.out⟩
      case round =>
        obtain ⟨vo, pre, rest, A', pb, bs', rfl, hL, hb, hlen, hpre, hG, hT, hown, hK⟩ := hrel
        have cg : wr.cell? ⟨g, f, none⟩ = some (.pointer A') := by
          rw [hG.cell, Array.getElem?_setIfInBounds_ne (by omega)]
          simp [hsz.1]
        have cm : wr.cell? ⟨g, f + 1, none⟩ = some (.int .i64 (rest.length : Int)) := by
          rw [hG.cell]
          simp [hsz.2]
        by_cases hgo : ∃ p rest', rest = p :: rest' ∧ p.2 = 1
        · obtain ⟨p, rest', rfl, hp1⟩ := hgo
          cases bs' with
          | nil => exact hT.elim
          | cons b bs' =>
            have hTT := hT
            obtain ⟨rfl, nx, hbk, hT2⟩ := hT
            have cb0 : wr.cell? ⟨b, 0, none⟩ = some (.int .i64 (p.1 : Int)) := by rw [hbk.cell]; rfl
            have cb1 : wr.cell? ⟨b, 1, none⟩ = some (.int .i64 0) := by rw [hbk.cell, hp1]; rfl
            have hgv : g ∉ vo.ownBlock.toList := fun hm => unown_ne hown hG (fun e => hti e.symm) (by simpa using hm)
            have hbv : ∀ x ∈ b :: bs', x ∉ vo.ownBlock.toList := fun x hx hm => by
              obtain ⟨cs1, h1⟩ := hTT.blks x hx
              exact unown_ne hown h1 (by decide) (by simpa using hm)
            have hsz2 : w.heap.size ≤ wr.heap.size := hK.size
            have hpl : pre.length ≤ 64 := by rw [hL] at hl; simp at hl; omega
            have HG := Lib.hid hG
            have HBK := Lib.hid hbk
            have HT2 := Lib.hid hT2
            have HK := Lib.hid hK
            have HGV := Lib.hid hgv
            have HBV := Lib.hid hbv
            have HL2 : Hid (L = (pre ++ [p]) ++ rest' ∧ bs = (pb ++ [b]) ++ bs') := ⟨by rw [hL]; simp, by rw [hb]; simp⟩
            have HGK : Hid (rest'.length < gk) := by show _ < _; rw [← hlen]; simp
            have HPR : Hid (∀ q ∈ pre ++ [p], q.2 = 1) := fun q hq => by
              rcases List.mem_append.1 hq with hq | hq
              · exact hpre q hq
              · simp at hq; subst hq; exact hp1
            have hrl : rest'.length ≤ 64 := by rw [hL] at hl; simp at hl; omega
            have hll : Hid ((p :: rest').length = rest'.length + 1) := show _ = _ from rfl
            have hwl : IntKind.i64.wrap ((((p :: rest').length : Nat) : Int) - 1) = (rest'.length : Int) := by rw [hll.out, IntWalk.i64_in _ (by omega)]; omega
            clear hL hb hlen hpre hG hTT hbk hT2 hK hp1 hgv hbv
            generalize (p :: rest').length = ll at *
            go_wp2_with (at_builtin; refine wpList_append_one rfl (.tmp 34) (.tmp 42) 29 rfl slice_intT hown rfl rfl (us := [.int .i64 (p.1 : Int)]) rfl (by simp [Value.oneCell']) hsz2 (by omega) (by unfold maxLen; omega) ?_; intro v' w5 hown5 k5 hat5; have hG5 := HG.out.keep k5 HGV.out; have hb5 := HBK.out.keep k5 (HBV.out b (by simp)); have hT5 := HT2.out.keep k5 (fun x hx => HBV.out x (by simp [hx])); have c5 : w5.cell? ⟨g, f, none⟩ = some (.pointer (some ⟨b, 0, none⟩)) := (by rw [hG5.cell, Array.getElem?_setIfInBounds_ne (by omega)]; simp [hsz.1]); have cn5 : w5.cell? ⟨b, 2, none⟩ = some (.pointer nx) := (by rw [hb5.cell]; rfl); have fz5 := hG5.frozen f; have hG6 := hG5.set_ f (.pointer nx); have cm6 : (w5.setCell ⟨g, f, none⟩ (.pointer nx)).cell? ⟨g, f + 1, none⟩ = some (.int .i64 (ll : Int)) := (by rw [hG6.cell, Array.getElem?_setIfInBounds_ne (by omega)]; simp [hsz.2]); have fz6 := hG6.frozen (f + 1))
            have hown7 : ((w5.setCell ⟨g, f, none⟩ (.pointer nx)).setCell ⟨g, f + 1, none⟩ (.int .i64 (rest'.length : Int))).ownsRow w.heap.size 3 1 v' (pre.length + 1) (natI (pre.map Prod.fst) ++ [.int .i64 (p.1 : Int)]) := by
              have k6 := keep_set w5 g f (.pointer nx)
              have h6 := own_keep hown5 k6 (fun x hx hm => by simp only [List.mem_cons, List.not_mem_nil, or_false] at hm; subst hm; exact unown_ne hown5 hG5 (fun e => hti e.symm) hx)
              exact own_keep h6 (keep_set _ g (f + 1) _) (fun x hx hm => by simp only [List.mem_cons, List.not_mem_nil, or_false] at hm; subst hm; exact unown_ne h6 hG6 (fun e => hti e.symm) hx)
            have hG7 : Blk ((w5.setCell ⟨g, f, none⟩ (.pointer nx)).setCell ⟨g, f + 1, none⟩ (.int .i64 (rest'.length : Int))) g t ((cs.setIfInBounds f (.pointer nx)).setIfInBounds (f + 1) (.int .i64 (rest'.length : Int))) := by
              have := hG6.set_ (f + 1) (.int .i64 (rest'.length : Int))
              have e : ((((cs.setIfInBounds f (.pointer (some ⟨b, 0, none⟩))).setIfInBounds (f + 1) (.int .i64 (ll : Int))).setIfInBounds f (.pointer nx)).setIfInBounds (f + 1) (.int .i64 (rest'.length : Int))) = ((cs.setIfInBounds f (.pointer nx)).setIfInBounds (f + 1) (.int .i64 (rest'.length : Int))) := by
                rw [Array.setIfInBounds_comm (xs := cs.setIfInBounds f (.pointer (some ⟨b, 0, none⟩))) _ _ (show f + 1 ≠ f by omega), Array.setIfInBounds_setIfInBounds, Array.setIfInBounds_setIfInBounds]
              rw [e] at this
              exact this
            have hT7 : TmAt ((w5.setCell ⟨g, f, none⟩ (.pointer nx)).setCell ⟨g, f + 1, none⟩ (.int .i64 (rest'.length : Int))) nx bs' (dlT p.2 rest') := by
              have hg' : ∀ x ∈ bs', x ∉ [g] := fun x hx hm => by simp only [List.mem_cons, List.not_mem_nil, or_false] at hm; subst hm; exact hoff (by rw [HL2.out.2]; simp [hx])
              exact (hT5.keep (keep_set w5 g f _) hg').keep (keep_set _ g (f + 1) _) hg'
            have hK7 : Keep (g :: bs) w ((w5.setCell ⟨g, f, none⟩ (.pointer nx)).setCell ⟨g, f + 1, none⟩ (.int .i64 (rest'.length : Int))) := by
              have h5 := HK.out.trans k5 (fun x hx hlt => by have := row_baseT hown x hx; omega)
              exact (h5.trans (keep_set w5 g f _) (fun x hx _ => by simp at hx; simp [hx])).trans (keep_set _ g (f + 1) _) (fun x hx _ => by simp at hx; simp [hx])
            have H7 := Lib.hid (And.intro hown7 (And.intro hG7 (And.intro hT7 hK7)))
            have hp2 : Hid (p.2 = 1) := HPR.out p (by simp)
            clear hown7 hG7 hT7 hK7 hown5 k5 hat5 hG5 hb5 hT5 hG6 hown
            go_roundg rest'.length
            case rel => exact ⟨_, pre ++ [p], rest', nx, pb ++ [b], bs', rfl, HL2.out.1, HL2.out.2, rfl, HPR.out, H7.out.2.1, by have := H7.out.2.2.1; rw [hp2.out] at this; exact this, by have := H7.out.1; simpa [natI] using this, H7.out.2.2.2⟩
            case measure => exact HGK.out
        · have hhead : ∀ p, rest.head? = some p → p.2 ≠ 1 := fun p hp hc => by
            cases rest with
            | nil => cases hp
            | cons q rest' => cases hp; exact hgo ⟨p, rest', rfl, hc⟩
          have hpop : popR L = (pre.map Prod.fst, lessT rest) := by rw [hL]; exact popR_pre hpre hhead
          have hll : (lessT rest).length = rest.length := by unfold lessT; simp
          have hfin : TqPost w g t f cs (lessT rest) bs wr := by
            refine ⟨A', bs', ⟨by rw [hll]; exact hG, ⟨A', ?_, ?_⟩, ?_, ?_, fun hm => hoff (by rw [hb]; simp [hm]), ?_, fun p hp => ?_⟩, fun x hx => .inl (by rw [hb]; simp [hx]), hK⟩
            · rw [Array.getElem?_setIfInBounds_ne (by omega)]
              simp [hsz.1]
            · have := dlT_less rest 1 (Nat.le_refl _) (fun p hp => hpos p (by rw [hL]; simp [hp]))
              rw [this]; exact hT
            · simp [hsz.2]
            · rw [hb, List.nodup_append] at hnd
              exact hnd.2.1
            · rw [hL, SortT, List.pairwise_append] at hs
              exact SortT.less hs.2.1
            · obtain ⟨q, hq, rfl⟩ := List.mem_map.1 hp
              have := hle q (by rw [hL]; simp [hq])
              show q.2 - 1 ≤ _
              omega
          have HFI := Lib.hid hfin
          have HPO := Lib.hid hpop
          obtain ⟨Av, cv, rfl⟩ := own_shape hown
          have HOW := Lib.hid hown
          have hlp : (pre.map Prod.fst).length = pre.length := by simp
          have HLP := Lib.hid hlp
          have hdl := dlT_len rest 1
          cases rest with
          | nil =>
            have hA' : A' = none := by
              cases bs' with
              | nil => exact hT
              | cons b bs' => exact hT.elim
            subst hA'
            clear hL hb hlen hpre hG hT hown hK cm hgo hhead hpop hll hfin hlp hdl hnd hoff hs hle hpos hl hbsl
            go_wp2
            go_ret
            rw [HPO.out]
            refine ⟨Av, cv, ?_, ?_, HFI.out⟩
            · dsimp only; rw [HLP.out]; rfl
            · dsimp only; rw [HLP.out]; exact HOW.out
          | cons p rest' =>
            cases bs' with
            | nil => exact hT.elim
            | cons b bs' =>
              obtain ⟨rfl, nx, hbk, hT2⟩ := hT
              have cb : wr.cell? ⟨b, 1, none⟩ = some (.int .i64 ((p.2 - 1 : Nat) : Int)) := by rw [hbk.cell]; rfl
              have hp1 := hhead p rfl
              have hpp := hpos p (by rw [hL]; simp)
              have hne : (((p.2 - 1 : Nat) : Int) == 0) = false := beq_eq_false_iff_ne.2 (by omega)
              clear hL hb hlen hpre hG hT2 hown hK cm hgo hhead hpop hll hfin hlp hdl hnd hoff hs hle hpos hl hbsl hbk hp1 hpp
              go_wp2
              go_ret
              rw [HPO.out]
              refine ⟨Av, cv, ?_, ?_, HFI.out⟩
              · dsimp only; rw [HLP.out]; rfl
              · dsimp only; rw [HLP.out]; exact HOW.out
end Go.Proofs.YteflgdnekflbbaaDoor
