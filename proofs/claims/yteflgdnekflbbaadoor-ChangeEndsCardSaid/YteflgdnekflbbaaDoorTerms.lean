/- check.Sum over any iterator of ints whose contract is known; no other condition. demand's iterator of each term's work, and the work of several terms; no condition. The work of several terms, and the least time by steps (demand, fix); no condition. The terms of a set of an image's tasks (demand). Condition: the table of math/bits lies where the program's text lays it. -/
import Derived.Test.YteflgdnekflbbaaDoorDemP
import Derived.Test.YteflgdnekflbbaaDoorIter
import Derived.Test.YteflgdnekflbbaaDoorPend
import Derived.Test.YteflgdnekflbbaaDoorMaskAll
import Derived.Test.YteflgdnekflbbaaDoorImgT
namespace Go.Proofs.YteflgdnekflbbaaDoor
open Go.RowKit
attribute [local go_sem] Oper.semAt_some

def encI (x : Int) : Array Value := #[.int .i64 x]
theorem Keep.grown0 {w w' : World} (k : Keep [] w w') : w.grownBy w' none := ⟨k.os, k.tape, k.output, k.size, fun i hi _ => k.block i hi (by simp)⟩
theorem sumFrom_append : ∀ (l m : List Int) (n : Int), sumFrom n (l ++ m) = (sumFrom n l).bind (fun k => sumFrom k m)
  | [], _, _ => rfl
  | a :: l, m, n => by
    rw [List.cons_append, sumFrom, sumFrom]
    cases addM n a with
    | none => rfl
    | some k => exact sumFrom_append l m k
theorem sumFrom_snoc (l : List Int) (a n : Int) : sumFrom n (l ++ [a]) = (sumFrom n l).bind (fun k => addM k a) := by
  rw [sumFrom_append]
  congr 1
  funext k
  show (addM k a).bind _ = _
  cases addM k a <;> rfl
theorem sumFrom_prefix {l m : List Int} {n : Int} (h : l <+: m) (hl : sumFrom n l = none) : sumFrom n m = none := by
  obtain ⟨r, rfl⟩ := h
  rw [sumFrom_append, hl]; rfl

set_option maxRecDepth 100000 in
set_option maxHeartbeats 1000000 in
theorem csum_any (g : Nat) (lb : Array Value) (xs : List Int) (C : List Nat) (w : World) (hC : ∀ k, k ∈ C → k < w.heap.size) (hen : ∀ args w, (callFunc g args).run Tryd.prog w = .ok (.enter g args) w)
    (hseq : SeqStopsK Fence.wide 8 Tryd.prog g lb encI (Same C) (fun ys => ys = xs) (fun pre => pre <+: xs) xs.length w) :
    Calls Tryd.prog 79 #[.func (.func g) #[] lb] w fun e w' => e = .returned (numRes (sumFrom 0 xs)) ∧ Keep [] w w' := by
  rw [← callsIn_wide (n := 9)]
  refine callsIn_of_wp_marks Tryd.func79 rfl trivial ?_ rfl
  simp only [Tryd.ntmps79, List.size_toArray, List.length_cons, List.length_nil, Nat.reduceAdd, Nat.reduceSub, Array.replicate_succ, Array.replicate_zero, List.push_toArray, List.append_toArray, List.nil_append, List.cons_append]
  gi_wp2
  obtain ⟨W0, hW0⟩ : ∃ W0, ((w.alloc (.cells #[.int .i64 0] 3)).alloc (.cells #[.bool false] 4)).alloc (.cells #[.int .i64 0] 3) = W0 := ⟨_, rfl⟩
  have hsz : W0.heap.size = w.heap.size + 3 := by rw [← hW0]; simp
  have b0 : Blk W0 w.heap.size 3 #[.int .i64 0] := by rw [← hW0]; exact ((Blk.new _ _ _).alloc _).alloc _
  have b1 : Blk W0 (w.heap.size + 1) 4 #[.bool false] := by
    rw [← hW0]; have := Blk.new (w.alloc (.cells #[.int .i64 0] 3)) 4 #[.bool false]; rw [World.size_alloc] at this; exact this.alloc _
  have b2 : Blk W0 (w.heap.size + 2) 3 #[.int .i64 0] := by
    rw [← hW0]; have := Blk.new ((w.alloc (.cells #[.int .i64 0] 3)).alloc (.cells #[.bool false] 4)) 3 #[.int .i64 0]; rw [World.size_alloc, World.size_alloc] at this; exact this
  have K0 : Keep [] w W0 := by rw [← hW0]; exact (((Keep.refl _ w).alloc _).alloc _).alloc _
  simp only [hW0]
  clear hW0
  refine wpIn_rangeFunc_ownG (F := Fence.wide) (n := 9) (ps := #[9]) rfl (by omega) (gf := g) (lb := lb) rfl trivial hen
    hseq Same.trans (Same.turn (fun k hk => by have := hC k hk; omega)) K0.below (fun _ => rfl)
    (fun pre W => ∃ m, sumFrom 0 pre = some m ∧ Blk W (w.heap.size + 2) 3 #[.int .i64 m] ∧ Blk W w.heap.size 3 #[.int .i64 0] ∧ Blk W (w.heap.size + 1) 4 #[.bool false] ∧ Keep [w.heap.size, w.heap.size + 1, w.heap.size + 2] W0 W)
    (fun c pre W => c = .ret ∧ sumFrom 0 pre = none ∧ Blk W w.heap.size 3 #[.int .i64 0] ∧ Blk W (w.heap.size + 1) 4 #[.bool false] ∧ Keep [w.heap.size, w.heap.size + 1, w.heap.size + 2] W0 W)
    ?hI ?hIx ⟨_, rfl, b2, b0, b1, Keep.refl _ _⟩
    (fun x => { tmps := #[.func (.func g) #[] lb, undef, .pointer (some ⟨w.heap.size, 0, none⟩), .pointer (some ⟨w.heap.size + 1, 0, none⟩), .pointer (some ⟨w.heap.size + 2, 0, none⟩), .int .i64 x, undef, undef, .func (.func g) #[] lb, .int .i64 x,
      undef, undef, undef, undef, undef, undef, undef, undef, undef, undef], defers := [] }) ?assign ?body ?done ?stop
  case hI =>
    intro pre X Y row hs hg hr
    obtain ⟨m, h1, h2, h3, h4, h5⟩ := hs
    exact ⟨m, h1, blk_own (β := Unit) _ _ (fun _ => _) () X Y row h2 hg hr, blk_own (β := Unit) _ _ (fun _ => _) () X Y row h3 hg hr, blk_own (β := Unit) _ _ (fun _ => _) () X Y row h4 hg hr,
      keep_own (β := Unit) (Nat.le_refl _) () X Y row h5 hg hr⟩
  case hIx =>
    intro c pre X Y row hs hg hr
    obtain ⟨h0, h1, h3, h4, h5⟩ := hs
    exact ⟨h0, h1, blk_own (β := Unit) _ _ (fun _ => _) () X Y row h3 hg hr, blk_own (β := Unit) _ _ (fun _ => _) () X Y row h4 hg hr,
      keep_own (β := Unit) (Nat.le_refl _) () X Y row h5 hg hr⟩
  case assign =>
    intro l x W K hK
    simp only [encI]
    gi_wp2
    exact hK
  case body =>
    rintro l pre x W ⟨m, hm, bm, br, bo, hK⟩ hlt
    have hHm := Lib.hid hm
    have cm := bm.cell 0
    have fm := bm.frozen 0
    have cr := br.cell 0
    have fr := br.frozen 0
    have co := bo.cell 0
    have fo := bo.frozen 0
    simp at cm cr co
    have HD := fun w => Lib.hid (cadd_any m x w)
    clear hm
    cases hmx : addM m x with
    | none =>
      have HX : Hid (sumFrom 0 (pre ++ [x]) = none) := by show _ = _; rw [sumFrom_snoc, hHm.out]; exact hmx
      gi_wp2_with (refine ⟨trivial, ?_⟩; gi_at_call 77; refine (callsIn_wide.2 (HD _).out).mono ?_; rintro e w' ⟨rfl, rfl⟩; rw [hmx, numRes_none])
      have k1 := keep_set W w.heap.size 0 (.int .i64 0)
      have k2 := keep_set (W.setCell ⟨w.heap.size, 0, none⟩ (.int .i64 0)) (w.heap.size + 1) 0 (.bool false)
      have k3 : Keep [w.heap.size, w.heap.size + 1] W _ := (k1.mono (by simp)).trans k2 (by simp)
      refine ⟨k3.from (fun y hy => .inl (by simp at hy; omega)), rfl, HX.out, (br.set_ 0 _).keep k2 (by simp), (bo.keep k1 (by simp)).set_ 0 _, hK.trans k3 (by simp)⟩
    | some q =>
      have HX : Hid (sumFrom 0 (pre ++ [x]) = some q) := by show _ = _; rw [sumFrom_snoc, hHm.out]; exact hmx
      gi_wp2_with (refine ⟨trivial, ?_⟩; gi_at_call 77; refine (callsIn_wide.2 (HD _).out).mono ?_; rintro e w' ⟨rfl, rfl⟩; rw [hmx, numRes_some])
      have k2 := keep_set W (w.heap.size + 2) 0 (.int .i64 q)
      refine ⟨k2.from (fun y hy => .inl (by simp at hy; omega)), Same.keep k2 (fun y hy => ⟨by have := hC y hy; have := hK.size; omega, by have := hC y hy; simp; omega⟩), q, HX.out, bm.set_ 0 _, br.keep k2 (by simp), bo.keep k2 (by simp), hK.trans k2 (by simp)⟩
  case done =>
    rintro D ys W hD rfl ⟨m, hm, bm, br, bo, hK⟩ hD2
    have HM := Lib.hid hm
    have cm := bm.cell 0
    have cr := br.cell 0
    have fr := br.frozen 0
    have co := bo.cell 0
    have fo := bo.frozen 0
    simp at cm cr co
    clear hm
    gi_wp2
    have k1 := keep_set W w.heap.size 0 (.int .i64 m)
    have k2 := keep_set (W.setCell ⟨w.heap.size, 0, none⟩ (.int .i64 m)) (w.heap.size + 1) 0 (.bool true)
    have k3 : Keep [w.heap.size, w.heap.size + 1] W _ := (k1.mono (by simp)).trans k2 (by simp)
    have e1 := (br.set_ 0 (.int .i64 m)).keep k2 (by simp)
    have e2 := (bo.keep k1 (by simp)).set_ 0 (.bool true)
    have hD3 := k3.block D (Array.getElem?_eq_some_iff.1 hD2).1 (by simp; omega) |>.trans hD2
    refine ⟨by simp, .inl ⟨_, _, rfl, run_takeDeferred hD3, ?_⟩⟩
    have m1 := (blk_putObj (.deferred none) e1 hD3 rfl).cell 0
    have m2 := (blk_putObj (.deferred none) e2 hD3 rfl).cell 0
    have m3 := ((K0.trans hK (by intro y hy hlt; simp at hy; omega)).trans k3 (by simp)).trans (keep_putObj _ D (.deferred none)) (fun y hy hlt => by simp at hy; omega)
    simp at m1 m2
    exact ⟨.tuple #[.int .i64 m, .bool true], by simp [results, Tryd.results79, go_sem, m1, m2], by rw [HM.out]; rfl, m3⟩
  case stop =>
    rintro D c pre W hD hpre ⟨rfl, hn, br, bo, hK⟩ hD2
    have cr := br.cell 0
    have co := bo.cell 0
    simp at cr co
    have HM := Lib.hid (sumFrom_prefix hpre hn)
    clear hn
    gi_wp2
    have hD3 := hD2
    refine ⟨by simp, .inl ⟨_, _, rfl, run_takeDeferred hD3, ?_⟩⟩
    have m1 := (blk_putObj (.deferred none) br hD3 rfl).cell 0
    have m2 := (blk_putObj (.deferred none) bo hD3 rfl).cell 0
    have m3 := (K0.trans hK (by intro y hy hlt; simp at hy; omega)).trans (keep_putObj _ D (.deferred none)) (fun y hy hlt => by simp at hy; omega)
    simp at m1 m2
    exact ⟨.tuple #[.int .i64 0, .bool false], by simp [results, Tryd.results79, go_sem, m1, m2], by rw [HM.out]; rfl, m3⟩
end Go.Proofs.YteflgdnekflbbaaDoor

namespace Go.Proofs.YteflgdnekflbbaaDoor
open Go.RowKit
attribute [local go_sem] Oper.semAt_some


/-- The work of each term; below 0: it is none. -/
def workI (n : Int) (t : Trm) : Int := (workM t n).getD (-1)
set_option maxRecDepth 100000 in
set_option maxHeartbeats 1000000 in
theorem works_any (A : Option Addr) (c : Nat) (l : List Trm) (n : Int) (w : World) : Calls Tryd.prog 80 #[.int .i64 n, .slice A l.length c] w fun e w' =>
    e = .returned (.func (.func 83) #[] #[.pointer (some ⟨w.heap.size + 1, 0, none⟩), .pointer (some ⟨w.heap.size, 0, none⟩)]) ∧ (w.alloc (.cells #[.int .i64 n] 3)).alloc (.cells #[.slice A l.length c] 140) = w' := by
  go_enter Tryd.func80, Tryd.ntmps80
  go_wp2
  go_ret
  exact ⟨rfl, rfl⟩

set_option maxRecDepth 100000 in
set_option maxHeartbeats 1000000 in
theorem works1_stops (m : Nat) (A : Option Addr) (c : Nat) (l : List Trm) (n : Int) (B1 B2 : Nat) (w : World) (h1 : B1 < w.heap.size) (h2 : B2 < w.heap.size) (hR : Reads w 4 A l.length (l.flatMap trmCells)) (hl : l.length ≤ 64)
    (hb1 : Blk w B1 140 #[.slice A l.length c]) (hb2 : Blk w B2 3 #[.int .i64 n]) (CB : Nat) (hCB : 0 < l.length → ∀ ad, A = some ad → ad.block = CB) (hlt : CB < w.heap.size) :
    SeqStopsK Fence.wide m Tryd.prog 83 #[.pointer (some ⟨B1, 0, none⟩), .pointer (some ⟨B2, 0, none⟩)] encI (Same [B1, B2, CB]) (fun xs => xs = l.map (workI n)) (fun pre => pre <+: l.map (workI n)) (l.map (workI n)).length w := by
  intro l0 J Jx W hW hJ hJx hY h0
  have c1 : W.cell? ⟨B1, 0, none⟩ = some (.slice A l.length c) := (hW.cell (p := ⟨B1, 0, none⟩) h1).trans (by rw [hb1.cell]; rfl)
  have hS0 : Hid (∀ wr, Same [B1, B2, CB] W wr → wr.cell? ⟨B1, 0, none⟩ = some (.slice A l.length c) ∧ wr.cell? ⟨B2, 0, none⟩ = some (.int .i64 n) ∧
      ∀ k (hk : k < l.length), ∃ b o, A = some ⟨b, o, none⟩ ∧ b < wr.heap.size ∧ CellsAt wr b (o + k * 4) (trmCells l[k])) := fun wr hs => by
    refine ⟨(hs.cell (p := ⟨B1, 0, none⟩) (by simp)).trans c1, (hs.cell (p := ⟨B2, 0, none⟩) (by simp)).trans ((hW.cell (p := ⟨B2, 0, none⟩) h2).trans (by rw [hb2.cell]; rfl)), fun k hk => ?_⟩
    obtain ⟨b, o, rfl, hbl, hcell⟩ := hR.elems rfl (fun t _ => trm_len t) (by omega)
    obtain rfl : b = CB := hCB (by omega) _ rfl
    have hc0 := hcell k hk 0 _ rfl
    have e : ∀ j, wr.cell? ⟨b, o + k * 4 + j, none⟩ = w.cell? ⟨b, o + k * 4 + j, none⟩ := fun j => (hs.cell (p := ⟨b, o + k * 4 + j, none⟩) (by simp)).trans (hW.cell (p := ⟨b, o + k * 4 + j, none⟩) hlt)
    refine ⟨b, o, rfl, ?_, fun j u hu => (e j).trans (hcell k hk j u hu)⟩
    have := (e 0).trans hc0
    exact World.block_lt_of_cell? _ _ this
  have HL := Lib.hid hl
  have hSz : Hid (∀ wr, Same [B1, B2, CB] W wr → ∀ x, x ∈ [B1, B2, CB] → x < wr.heap.size) := fun wr hs x hx => by
    have hxW : x < W.heap.size := Nat.lt_of_lt_of_le (by simp at hx; rcases hx with rfl | rfl | rfl <;> assumption) hW.size
    have e := hs x hx
    rw [Array.getElem?_eq_getElem hxW] at e
    exact (Array.getElem?_eq_some_iff.1 e).1
  clear hb1 hb2 hR hCB hlt hl
  refine callsIn_of_wp Tryd.func83 rfl trivial ?_ rfl
  simp only [Tryd.ntmps83, List.size_toArray, List.length_cons, List.length_nil, Nat.reduceAdd, Nat.reduceSub, Array.replicate_succ, Array.replicate_zero, List.push_toArray, List.append_toArray, List.nil_append, List.cons_append]
  gi_wp2
  gi_loopw [10] (fun vi wr => ∃ k : Nat, k ≤ l.length ∧ vi = .int .i64 k ∧ J ((l.take k).map (workI n)) wr ∧ Same [B1, B2, CB] W wr) (fun i _ => l.length - (intOf i).toNat)
  case atStart => exact ⟨0, Nat.zero_le _, rfl, by simpa using h0, Same.refl _ _⟩
  case round =>
    obtain ⟨k, hk, rfl, hJr, hs⟩ := hrel
    have hl := HL.out
    by_cases hlt : k < l.length
    · obtain ⟨q1, q2, q3⟩ := hS0.out wr hs
      obtain ⟨b, o, rfl, hbl, hc⟩ := q3 k hlt
      have HTL : Hid ((trmCells l[k]).length = 4) := show _ = _ from rfl
      have HW := fun w => Lib.hid (work_any l[k] n w)
      have hone : Hid (∀ u ∈ trmCells l[k], u.oneCell' = true) := fun u hu => by simp [trmCells] at hu; rcases hu with rfl | rfl | rfl | rfl <;> rfl
      have HP : Hid ((l.take (k + 1)).map (workI n) = (l.take k).map (workI n) ++ [workI n l[k]]) := by show _ = _; rw [List.take_succ_eq_append_getElem hlt, List.map_append]; rfl
      have HLn : Hid (((l.take k).map (workI n)).length < (l.map (workI n)).length) := by show _ < _; simp; omega
      have hr1 : Hid (∀ w', Keep [] wr w' → w'.cell? ⟨B2, 0, none⟩ = some (.int .i64 n)) := fun w' hk => (hk.cell (p := ⟨B2, 0, none⟩) (World.block_lt_of_cell? _ _ q2) (by simp)).trans q2
      have hLT : Hid (∀ x, x ∈ [B1, B2, CB] → x < wr.heap.size) := hSz.out wr hs
      clear q3 hS0 q2
      generalize trmCells l[k] = tc at *
      generalize hxt : l[k] = t at *
      have hC0 := Lib.hid hc
      clear hc
      gi_wp2_with (first
        | (refine wpListIn_agg rfl 144 (.tmp 12) rfl rfl (cs := tc) (by rw [HTL.out]; exact agg_term) hC0.out ?_)
        | (refine stopIn_store 144 (.tmp 5) (.tmp 13) rfl ?_))
      constructor
      refine wpListIn_store_all rfl 144 (.tmp 5) (.tmp 13) rfl rfl rfl (vs := tc) (by rw [HTL.out]; exact agg_term.2) (Blk.new _ _ _) hone.out (by rw [HTL.out]; rfl) ?_
      intro w2 d2 k2
      have K2 : Keep [] wr w2 := ((Keep.refl [] wr).alloc _).trans k2 (fun x hx hlt => by simp at hx; omega)
      have cn := hr1.out w2 K2
      have HK2 := Lib.hid K2
      have D2 := Lib.hid d2.cellsAt
      clear k2 K2 d2
      gi_wp2_with (refine wpListIn_agg rfl 144 (.tmp 5) rfl rfl (cs := tc) (by rw [HTL.out]; exact agg_term) D2.out ?_)
      refine ⟨trivial, fun h => (by cases h), (callsIn_wide.2 (HW _).out).mono ?_⟩
      rintro e w3 ⟨rfl, k3⟩
      have K3 := HK2.out.then k3
      have hJ3 := hJ _ _ _ none hJr K3.grown0 (fun r h => by cases h)
      have hs3 := Lib.hid (hs.trans (Same.keep K3 (fun x hx => ⟨hLT.out x hx, by simp⟩)))
      obtain ⟨fn, tmps, assign, body, hy, hR⟩ := hY _ (workI n t) w3 hJ3 HLn.out
      dsimp only [encI] at hy
      clear k3 K3 cn
      have HPre : Hid ((l.take (k + 1)).map (workI n) <+: l.map (workI n)) := by
        show _ <+: _
        rw [List.map_take]; exact List.take_prefix _ _
      cases hm : workM t n with
      | none =>
        have e1 : workI n t = -1 := by unfold workI; rw [hm]; rfl
        rw [e1] at hy hR HP
        clear e1 hm hxt
        rw [numRes_none]
        gi_wp2
        refine ⟨fun h => (by cases h), hR.mono ?_⟩
        rintro e W3 (⟨rfl, hJ4, hk4⟩ | ⟨rfl, hJx4⟩)
        · have HS4 := Lib.hid (hs3.out.trans hk4)
          gi_wp2
          go_roundw
          case rel => exact ⟨k + 1, by omega, by go_num, by rw [HP.out]; exact hJ4, HS4.out⟩
          case measure => simp [intOf] <;> omega
        · gi_wp2
          refine bodyPost_ret (results_none rfl _ _ _) rfl ?_
          exact ⟨⟨_, rfl⟩, .inr ⟨_, by rw [← HP.out]; exact HPre.out, hJx4⟩⟩
      | some q =>
        have e1 : workI n t = q := by unfold workI; rw [hm]; rfl
        rw [e1] at hy hR HP
        clear e1 hm hxt
        rw [numRes_some]
        gi_wp2
        refine ⟨fun h => (by cases h), hR.mono ?_⟩
        rintro e W3 (⟨rfl, hJ4, hk4⟩ | ⟨rfl, hJx4⟩)
        · have HS4 := Lib.hid (hs3.out.trans hk4)
          gi_wp2
          go_roundw
          case rel => exact ⟨k + 1, by omega, by go_num, by rw [HP.out]; exact hJ4, HS4.out⟩
          case measure => simp [intOf] <;> omega
        · gi_wp2
          refine bodyPost_ret (results_none rfl _ _ _) rfl ?_
          exact ⟨⟨_, rfl⟩, .inr ⟨_, by rw [← HP.out]; exact HPre.out, hJx4⟩⟩
    · obtain rfl : k = l.length := by omega
      have HE : Hid ((l.take l.length).map (workI n) = l.map (workI n)) := by show _ = _; rw [List.take_length]
      gi_wp2
      go_end0
      exact ⟨⟨_, rfl⟩, .inl ⟨_, HE.out, hJr⟩⟩
end Go.Proofs.YteflgdnekflbbaaDoor

namespace Go.Proofs.YteflgdnekflbbaaDoor
open Go.RowKit

theorem addM_neg (a b : Int) (h : b < 0) : addM a b = none := by
  unfold addM
  rw [(inM_no (n := b)).2 (.inl h)]
  simp
theorem sumFrom_neg : ∀ (l : List Int) (n : Int), (∃ x ∈ l, x < 0) → sumFrom n l = none
  | [], _, ⟨x, hx, _⟩ => by simp at hx
  | a :: l, n, ⟨x, hx, h0⟩ => by
    rw [sumFrom]
    cases h : addM n a with
    | none => rfl
    | some k =>
      refine sumFrom_neg l k ⟨x, ?_, h0⟩
      rcases List.mem_cons.1 hx with rfl | hx
      · rw [addM_neg n x h0] at h; cases h
      · exact hx
theorem worksM_some {n : Int} : ∀ {l : List Trm} {r : List Int}, worksM n l = some r → l.map (workI n) = r
  | [], r, h => by simp [worksM] at h; simp [h]
  | t :: l, r, h => by
    rw [worksM] at h
    cases ht : workM t n with
    | none => rw [ht] at h; cases h
    | some x =>
      rw [ht] at h
      cases hl : worksM n l with
      | none => rw [hl] at h; cases h
      | some r' =>
        rw [hl] at h
        have h : x :: r' = r := by simpa using h
        rw [List.map_cons, worksM_some hl, ← h]
        unfold workI; rw [ht]; rfl
theorem worksM_none {n : Int} : ∀ {l : List Trm}, worksM n l = none → ∃ x ∈ l.map (workI n), x < 0
  | [], h => by simp [worksM] at h
  | t :: l, h => by
    rw [worksM] at h
    cases ht : workM t n with
    | none => exact ⟨-1, by simp [workI, ht], by omega⟩
    | some x =>
      rw [ht] at h
      cases hl : worksM n l with
      | none => obtain ⟨y, hy, h0⟩ := worksM_none hl; exact ⟨y, by simp at hy ⊢; exact .inr hy, h0⟩
      | some r' => rw [hl] at h; cases h
theorem sum_works (l : List Trm) (n : Int) : sumFrom 0 (l.map (workI n)) = allM l n := by
  unfold allM
  cases h : worksM n l with
  | none => rw [sumFrom_neg _ _ (worksM_none h)]; rfl
  | some r => rw [worksM_some h]; rfl

set_option maxRecDepth 100000 in
set_option maxHeartbeats 1000000 in
theorem dwork_any (A : Option Addr) (c : Nat) (l : List Trm) (n : Int) (w : World) (h : Reads w 4 A l.length (l.flatMap trmCells)) (hl : l.length ≤ 64) :
    Calls Tryd.prog 76 #[.int .i64 n, .slice A l.length c] w fun e w' => e = .returned (numRes (allM l n)) ∧ Keep [] w w' := by
  obtain ⟨W0, hW0⟩ : ∃ W0, (w.alloc (.cells #[.int .i64 n] 3)).alloc (.cells #[.slice A l.length c] 140) = W0 := ⟨_, rfl⟩
  have K0 : Keep [] w W0 := by rw [← hW0]; exact ((Keep.refl _ w).alloc _).alloc _
  have b2 : Blk W0 w.heap.size 3 #[.int .i64 n] := by rw [← hW0]; exact (Blk.new _ _ _).alloc _
  have b1 : Blk W0 (w.heap.size + 1) 140 #[.slice A l.length c] := by
    rw [← hW0]; have := Blk.new (w.alloc (.cells #[.int .i64 n] 3)) 140 #[.slice A l.length c]; rw [World.size_alloc] at this; exact this
  have hsz : W0.heap.size = w.heap.size + 2 := by rw [← hW0]; simp
  have hcb : Hid (∃ CB, CB < W0.heap.size ∧ ∀ m, SeqStopsK Fence.wide m Tryd.prog 83 #[.pointer (some ⟨w.heap.size + 1, 0, none⟩), .pointer (some ⟨w.heap.size, 0, none⟩)] encI (Same [w.heap.size + 1, w.heap.size, CB]) (fun xs => xs = l.map (workI n)) (fun pre => pre <+: l.map (workI n)) (l.map (workI n)).length W0) := by
    rcases Nat.eq_zero_or_pos l.length with h0 | h0
    · exact ⟨w.heap.size, by omega, fun m => works1_stops m A c l n _ _ W0 (by omega) (by omega) (h.keep0 K0) hl b1 b2 w.heap.size (fun h => by omega) (by omega)⟩
    · obtain ⟨b, o, rfl, hbl, _⟩ := h.addr h0
      have hbl2 : b < W0.heap.size := by omega
      exact ⟨b, hbl2, fun m => works1_stops m _ c l n _ _ W0 (by omega) (by omega) (h.keep0 K0) hl b1 b2 b (fun _ ad e => by cases e; rfl) hbl2⟩
  have HS : Hid (Calls Tryd.prog 79 #[.func (.func 83) #[] #[.pointer (some ⟨w.heap.size + 1, 0, none⟩), .pointer (some ⟨w.heap.size, 0, none⟩)]] W0 fun e w' => e = .returned (numRes (allM l n)) ∧ Keep [] W0 w') := by
    obtain ⟨CB, hCB, hs⟩ := hcb.out
    have := csum_any 83 _ (l.map (workI n)) _ W0 (fun k hk => by simp at hk; omega) (enters_of Tryd.func83 (by kernel_rfl) rfl) (hs 8)
    rw [sum_works] at this
    exact this
  have HW := Lib.hid hW0
  clear hcb hW0 b1 b2 h
  go_enter Tryd.func76, Tryd.ntmps76
  go_wp2_with (first
    | (refine (works_any A c l n _).mono ?_; rintro e w1 ⟨rfl, rfl⟩; rw [HW.out])
    | (refine HS.out.mono ?_; rintro e w2 ⟨rfl, k2⟩; rw [numRes_eq]))
  go_ret2
  exact ⟨rfl, K0.then k2⟩

set_option maxRecDepth 100000 in
set_option maxHeartbeats 1000000 in
theorem fstep_any (A : Option Addr) (c : Nat) (l : List Trm) (own n : Int) (w : World) (h : Reads w 4 A l.length (l.flatMap trmCells)) (hl : l.length ≤ 64) :
    Calls Tryd.prog 70 #[.int .i64 own, .int .i64 n, .slice A l.length c] w fun e w' => e = .returned (numRes (stepM own (allM l) n)) ∧ Keep [] w w' := by
  have HD := fun w' => Lib.hid (fun hk => dwork_any A c l n w' (h.keep0 hk) hl)
  clear h hl
  cases hm : allM l n with
  | none =>
    have HR : Hid (numRes (stepM own (allM l) n) = .tuple #[.int .i64 0, .bool false]) := by show _ = _; unfold stepM; rw [hm]; rfl
    go_enter Tryd.func70, Tryd.ntmps70
    go_wp2_with (refine ((HD _).out (Keep.refl _ _)).mono ?_; rintro e w1 ⟨rfl, k1⟩; rw [hm, numRes_none])
    go_ret2
    exact ⟨by rw [HR.out]; rfl, k1⟩
  | some q =>
    have HR : Hid (numRes (stepM own (allM l) n) = numRes (addM own q)) := by show _ = _; unfold stepM; rw [hm]; rfl
    go_enter Tryd.func70, Tryd.ntmps70
    go_wp2_with (first
      | (refine ((HD _).out (Keep.refl _ _)).mono ?_; rintro e w1 ⟨rfl, k1⟩; rw [hm, numRes_some])
      | (refine (cadd_any _ _ _).mono ?_; rintro e w' ⟨rfl, rfl⟩; rw [numRes_eq]))
    go_ret2
    exact ⟨by rw [HR.out]; rfl, k1⟩

set_option maxRecDepth 100000 in
set_option maxHeartbeats 2000000 in
theorem fleast_any (A : Option Addr) (c : Nat) (l : List Trm) (own most : Int) (w : World) (h : Reads w 4 A l.length (l.flatMap trmCells)) (hlen : l.length ≤ 64) :
    Calls Tryd.prog 59 #[.int .i64 own, .int .i64 most, .slice A l.length c] w fun e w' => e = .returned (numRes (leastM own most (allM l))) ∧ Keep [] w w' := by
  have HAll := fun n W hk => Lib.hid (fstep_any A c l own n W (h.keep0 hk) hlen)
  clear h hlen
  by_cases ho : own < 0
  · have HX : Hid (numRes (leastM own most (allM l)) = .tuple #[.int .i64 0, .bool false]) := by show _ = _; unfold leastM; rw [if_pos ho]; rfl
    go_enter Tryd.func59, Tryd.ntmps59
    go_wp2
    go_ret2
    exact ⟨by rw [HX.out]; rfl, Keep.refl _ _⟩
  have ho2 : 0 ≤ own := by omega
  have HX : Hid (leastM own most (allM l) = itFrom own most (allM l) (most + 1 - max own 1).toNat (max own 1)) := by show _ = _; unfold leastM; rw [if_neg ho]
  clear ho
  generalize allM l = f at *
  rcases Int.lt_or_le own 1 with h1 | h1
  case' inl =>
    rw [show max own 1 = 1 by omega] at HX
  case' inr =>
    rw [show max own 1 = own by omega] at HX
  all_goals
    go_enter Tryd.func59, Tryd.ntmps59
    go_wp2
    go_loopw [8] (fun i wr => ∃ v : Int, i = .int .i64 v ∧ 1 ≤ v ∧ leastM own most f = itFrom own most f (most + 1 - v).toNat v ∧ Keep [] w wr) (fun i _ => (most + 1 - intOf i).toNat)
    case atStart => exact ⟨_, rfl, by omega, HX.out, Keep.refl _ _⟩
    case round =>
      obtain ⟨v, rfl, hv, hs, hK⟩ := hrel
      have HK := Lib.hid hK
      clear hK
      by_cases hlt : v ≤ most
      · rw [itFrom_step _ _ _ _ hlt] at hs
        have HA := Lib.hid (HAll v wr HK.out)
        cases hf : stepM own f v with
        | none =>
          rw [hf] at HA hs
          have HY : Hid (numRes (leastM own most f) = .tuple #[.int .i64 0, .bool false]) := by show _ = _; rw [hs]; rfl
          clear hs
          go_wp2_with (refine HA.out.out.mono ?_; rintro e w5 ⟨rfl, k5⟩; rw [numRes_none])
          have K5 := Lib.hid (HK.out.then k5)
          go_ret2
          exact ⟨by rw [HY.out]; rfl, K5.out⟩
        | some s =>
          rw [hf] at HA hs
          have HY : Hid (leastM own most f = if s ≤ v then some v else itFrom own most f (most + 1 - s).toNat s) := by show _ = _; rw [hs]; rfl
          clear hs
          by_cases hsv : s ≤ v
          · have HZ : Hid (numRes (leastM own most f) = .tuple #[.int .i64 v, .bool true]) := by show _ = _; rw [HY.out, if_pos hsv]; rfl
            go_wp2_with (refine HA.out.out.mono ?_; rintro e w5 ⟨rfl, k5⟩; rw [numRes_some])
            have K5 := Lib.hid (HK.out.then k5)
            go_ret2
            exact ⟨by rw [HZ.out]; rfl, K5.out⟩
          · have HZ : Hid (leastM own most f = itFrom own most f (most + 1 - s).toNat s) := by show _ = _; rw [HY.out, if_neg hsv]
            go_wp2_with (refine HA.out.out.mono ?_; rintro e w5 ⟨rfl, k5⟩; rw [numRes_some])
            have K5 := Lib.hid (HK.out.then k5)
            go_roundw
            case rel => exact ⟨s, rfl, by omega, HZ.out, K5.out⟩
            case measure => simp [intOf] <;> omega
      · have HY : Hid (numRes (leastM own most f) = .tuple #[.int .i64 0, .bool false]) := by show _ = _; rw [hs, itFrom_end _ _ _ _ (by omega)]; rfl
        clear hs
        go_wp2
        go_ret2
        exact ⟨by rw [HY.out]; rfl, HK.out⟩
end Go.Proofs.YteflgdnekflbbaaDoor

namespace Go.Proofs.YteflgdnekflbbaaDoor
open Go.RowKit
attribute [local go_sem] Oper.semAt_some noOut_normal

theorem slice_trm : SliceOf Tryd.prog 140 144 4 32 := ⟨Tryd.underlying140, by kernel_rfl, by decide⟩
/-- The terms of a set of tasks. -/
def termAt (l : List Tsk) (i : Nat) : List Trm := match l[i]? with | some t => [trmOf t] | none => []
def termsIn (l : List Tsk) (is : List Nat) : List Trm := is.flatMap (termAt l)
def termsOf (l : List Tsk) (s : Nat) : List Trm := termsIn l (bitsL s)
theorem termsIn_snoc (l : List Tsk) (is : List Nat) (i : Nat) : termsIn l (is ++ [i]) = termsIn l is ++ termAt l i := by simp [termsIn]
theorem termAt_le (l : List Tsk) (i : Nat) : (termAt l i).length ≤ 1 := by unfold termAt; split <;> simp
theorem termsIn_le (l : List Tsk) : ∀ is : List Nat, (termsIn l is).length ≤ is.length
  | [] => by simp [termsIn]
  | i :: is => by
    have h1 := termAt_le l i
    have h2 := termsIn_le l is
    unfold termsIn at *
    rw [List.flatMap_cons, List.length_append, List.length_cons]
    omega
theorem termsOf_le (l : List Tsk) (s : Nat) : (termsOf l s).length ≤ 32 := Nat.le_trans (termsIn_le l _) (bitsL_le s)
def RetTrms (w : World) (l : List Trm) (e : Ending) (w' : World) : Prop :=
  ∃ A c, e = .returned (.slice A l.length c) ∧ w'.ownsRow w.heap.size 144 4 (.slice A l.length c) l.length (l.flatMap trmCells) ∧ Keep [] w w'

set_option maxRecDepth 100000 in
set_option maxHeartbeats 1000000 in
theorem terms_any (v : ImgV) (x : Img) (s : Nat) (w : World) (hT : Tab w) (h : ImgAt w v x) (hs : s < 4294967296) :
    Calls Tryd.prog 60 #[.agg (imgCells v x).toArray, .int .u32 (s : Int)] w (RetTrms w (termsOf x.tasks s)) := by
  rw [← callsIn_wide (n := 9)]
  refine callsIn_of_wp_marks Tryd.func60 rfl trivial ?_ rfl
  simp only [Tryd.ntmps60, List.size_toArray, List.length_cons, List.length_nil, Nat.reduceAdd, Nat.reduceSub, Array.replicate_succ, Array.replicate_zero, List.push_toArray, List.append_toArray, List.nil_append, List.cons_append]
  have HL := Lib.hid h.lt
  have HI := Lib.hid h
  have HTb := Lib.hid hT
  have hI1 : Hid (∀ g W, Blk W g 26 (imgCells v x).toArray → W.cell? ⟨g, 1, none⟩ = some (.slice v.ta x.tasks.length v.tc)) := fun g W hb => img_c1 hb
  clear h hT
  generalize hcs : (imgCells v x).toArray = cs at *
  gi_wp2_with (refine ⟨trivial, ?_⟩; gi_at_call 40; refine (callsIn_wide.2 (maskAll_any s _)).mono ?_; rintro e w' ⟨rfl, rfl⟩)
  obtain ⟨W0, hW0⟩ : ∃ W0, ((w.alloc (.cells cs 26)).alloc (.cells #[.slice none 0 0] 140)).alloc (.cells #[.int .u32 (s : Int)] 36) = W0 := ⟨_, rfl⟩
  have hsz : W0.heap.size = w.heap.size + 3 := by rw [← hW0]; simp
  have b0 : Blk W0 w.heap.size 26 cs := by rw [← hW0]; exact ((Blk.new _ _ _).alloc _).alloc _
  have b1 : Blk W0 (w.heap.size + 1) 140 #[.slice none 0 0] := by
    rw [← hW0]; have := Blk.new (w.alloc (.cells cs 26)) 140 #[.slice none 0 0]; rw [World.size_alloc] at this; exact this.alloc _
  have b2 : Blk W0 (w.heap.size + 2) 36 #[.int .u32 (s : Int)] := by
    rw [← hW0]; have := Blk.new ((w.alloc (.cells cs 26)).alloc (.cells #[.slice none 0 0] 140)) 36 #[.int .u32 (s : Int)]; rw [World.size_alloc, World.size_alloc] at this; exact this
  have K0 : Keep [] w W0 := by rw [← hW0]; exact (((Keep.refl _ w).alloc _).alloc _).alloc _
  simp only [hW0]
  clear hW0
  have hbl := bitsL_le s
  have HLb := Lib.hid hbl
  refine wpIn_rangeFunc_ownG (F := Fence.wide) (n := 9) (ps := #[9]) rfl (by omega) (gf := 56) (lb := #[.pointer (some ⟨w.heap.size + 2, 0, none⟩)]) rfl trivial (enters_of Tryd.func56 (by kernel_rfl) rfl)
    (maskAll1_stops 8 s (w.heap.size + 2) W0 (by omega) b2 hs (HTb.out.keep0 K0)) Same.trans (Same.turn (by have := (HTb.out.keep0 K0).1; simp; omega)) (Below.refl _ _) (fun _ => rfl)
    (fun pre W => ∃ V, W.ownsRow (w.heap.size + 3) 144 4 V (termsIn x.tasks pre).length ((termsIn x.tasks pre).flatMap trmCells) ∧ Blk W (w.heap.size + 1) 140 #[V] ∧ Keep [w.heap.size + 1] W0 W)
    (fun _ _ _ => False)
    ?hI ?hIx ⟨_, World.ownsRow_nil _ _ _ _, b1, Keep.refl _ _⟩
    (fun i => { tmps := #[.agg cs, .int .u32 (s : Int), .pointer (some ⟨w.heap.size, 0, none⟩), undef, .slice none 0 0, .pointer (some ⟨w.heap.size + 1, 0, none⟩), .int .i64 (i : Int), .int .u32 (s : Int), .func (.func 56) #[] #[.pointer (some ⟨w.heap.size + 2, 0, none⟩)], .int .i64 (i : Int),
      undef, undef, undef, undef, undef, undef, undef, undef, undef, undef, undef, undef, undef, undef, undef], defers := [] }) ?assign ?body ?done ?stop
  case hI =>
    intro pre X Y row hs hg hr
    obtain ⟨V, h1, h2, h4⟩ := hs
    exact ⟨V, ownsRow_own (β := Unit) _ _ _ (fun _ => V) (fun _ => (termsIn x.tasks pre).length) (fun _ => (termsIn x.tasks pre).flatMap trmCells) () X Y row h1 hg hr, blk_own (β := Unit) _ _ (fun _ => _) () X Y row h2 hg hr,
      keep_own (β := Unit) (Nat.le_refl _) () X Y row h4 hg hr⟩
  case hIx => exact fun _ _ _ _ _ hs _ _ => hs
  case assign =>
    intro l i W K hK
    simp only [encN]
    gi_wp2
    exact hK
  case body =>
    rintro l pre i W ⟨V, hrow, hv, hK⟩ hlt
    have c1 := hI1.out _ _ (b0.keep hK (by simp))
    have hl := HL.out
    unfold maxLen at hl
    by_cases hi : i < x.tasks.length
    · obtain ⟨b, o, hA, hbw, hcs2⟩ := HI.out.task (by omega)
      have KW : Keep [] w W := K0.trans hK (by intro y hy hlt; simp at hy; omega)
      have hct := hcs2 i hi
      have HT : Hid (∀ w', Keep [] W w' → CellsAt w' b (o + i * 11) (tskCells x.tasks[i])) := fun w' hk => hct.keep0 (KW.then hk) hbw
      have HTL : Hid ((tskCells x.tasks[i]).length = 11) := tskCells_len (HI.out.ok.lon _ (List.getElem_mem hi))
      have HE : Hid (termsIn x.tasks (pre ++ [i]) = termsIn x.tasks pre ++ [trmOf x.tasks[i]]) := by
        show _ = _
        rw [termsIn_snoc]; unfold termAt; rw [List.getElem?_eq_getElem hi]
      have HO : ∀ w, Hid (Calls Tryd.prog 71 #[.agg (tskCells x.tasks[i]).toArray, .int .i64 0] w fun e w' => e = .returned (.agg #[.int .i64 x.tasks[i].per, .int .i64 x.tasks[i].cost, .int .i64 0, .int .i64 0]) ∧ Keep [] w w') := fun w => demOf_any x.tasks[i] w
      have HTR : Hid ((termsIn x.tasks pre ++ [trmOf x.tasks[i]]).flatMap trmCells = (termsIn x.tasks pre).flatMap trmCells ++ [.int .i64 x.tasks[i].per, .int .i64 x.tasks[i].cost, .int .i64 0, .int .i64 0]) := by
        show _ = _
        rw [List.flatMap_append]; rfl
      have hlen := termsIn_le x.tasks pre
      have hpl : pre.length < 32 := by have := HLb.out; omega
      have hF : ∀ w', Keep [] W w' → w'.cell? ⟨w.heap.size + 1, 0, none⟩ = some V ∧ w'.cell? ⟨w.heap.size, 1, none⟩ = some (.slice v.ta x.tasks.length v.tc) := fun w' hw =>
        ⟨by rw [(hv.keep0 hw).cell]; rfl, hI1.out _ _ ((b0.keep hK (by simp)).keep0 hw)⟩
      have q0 : (0 : Int) ≤ (i : Int) := by omega
      have q1 : (i : Int) < (x.tasks.length : Int) := by omega
      have HK := Lib.hid hK
      have HR := Lib.hid hrow
      have HV := Lib.hid hv
      clear hct hcs2 hK hrow hv
      generalize tskCells x.tasks[i] = tc at *
      generalize trmOf x.tasks[i] = tx at *
      generalize x.tasks[i].per = r1 at *
      generalize x.tasks[i].cost = r2 at *
      rw [hA] at hF
      gi_wp2
      refine ap_start 8 (Keep [] W) (open_round _) rfl rfl (Keep.refl _ _).drew (fun hS hPan => ?_) (fun _ _ _ _ _ h => h)
      (refine ap_val (v := ?_) 0 rfl (by kernel_rfl) (by kernel_rfl) (by kernel_rfl) (by kernel_rfl) (by rfl) hPan ?_ hS ?_; rotate_left; (intro w' hSw; obtain ⟨f1,f2⟩ := hF w' hSw; go_simp; try with_reducible rfl); simp only [Act.put, List.setIfInBounds_toArray, List.set_cons_zero, List.set_cons_succ])
      (refine ap_val (v := ?_) 1 rfl (by kernel_rfl) (by kernel_rfl) (by kernel_rfl) (by kernel_rfl) (by rfl) hPan ?_ hS ?_; rotate_left; (intro w' hSw; obtain ⟨f1,f2⟩ := hF w' hSw; go_simp; try with_reducible rfl); simp only [Act.put, List.setIfInBounds_toArray, List.set_cons_zero, List.set_cons_succ])
      (refine ap_val (v := ?_) 2 rfl (by kernel_rfl) (by kernel_rfl) (by kernel_rfl) (by kernel_rfl) (by rfl) hPan ?_ hS ?_; rotate_left; (intro w' hSw; obtain ⟨f1,f2⟩ := hF w' hSw; go_simp; try with_reducible rfl); simp only [Act.put, List.setIfInBounds_toArray, List.set_cons_zero, List.set_cons_succ])
      (refine ap_val (v := ?_) 3 rfl (by kernel_rfl) (by kernel_rfl) (by kernel_rfl) (by kernel_rfl) (by rfl) hPan ?_ hS ?_; rotate_left; (intro w' hSw; obtain ⟨f1,f2⟩ := hF w' hSw; go_simp; try with_reducible rfl); simp only [Act.put, List.setIfInBounds_toArray, List.set_cons_zero, List.set_cons_succ])
      (refine ap_val (v := ?_) 4 rfl (by kernel_rfl) (by kernel_rfl) (by kernel_rfl) (by kernel_rfl) (by rfl) hPan ?_ hS ?_; rotate_left; (intro w' hSw; obtain ⟨f1,f2⟩ := hF w' hSw; go_simp; try with_reducible rfl); simp only [Act.put, List.setIfInBounds_toArray, List.set_cons_zero, List.set_cons_succ])
      refine ap_agg 5 88 (.tmp 19) tc rfl (by kernel_rfl) (by kernel_rfl) (by kernel_rfl) (by kernel_rfl) (by rfl) hPan rfl rfl (by rw [HTL.out]; exact agg_task) HT.out hS ?_
      (simp only [Act.put, List.setIfInBounds_toArray, List.set_cons_zero, List.set_cons_succ])
      refine ap_one 6 (by kernel_rfl) ?_
      refine op_call (f := 71) (vs := #[.agg tc.toArray, .int .i64 0]) 6 rfl (by rfl) rfl (by simp only [List.map_toArray, List.map_cons, List.map_nil]; rfl) Tryd.func71 (by kernel_rfl) (by kernel_rfl) (HO _).out ?_
      rintro e w2 ⟨rfl, k2⟩
      have K2 := hS.then k2
      refine ⟨_, rfl, fun _ => K2, ?_⟩
      clear k2 hS
      (simp only [Act.put, List.setIfInBounds_toArray, List.set_cons_zero, List.set_cons_succ])
      refine ap_one 7 (by kernel_rfl) ?_
      refine op_run (v := .slice (some ⟨w2.heap.size, 0, none⟩) 1 1) (w' := w2.alloc (.cells #[.int .i64 r1, .int .i64 r2, .int .i64 0, .int .i64 0] 144)) 7 rfl (by rfl) (by go_simp) ?_
      have K3 := K2.alloc (.cells #[.int .i64 r1, .int .i64 r2, .int .i64 0, .int .i64 0] 144)
      refine ⟨fun _ => K3, ?_⟩
      have r3 := own_keep0 HR.out K3
      have v3 := HV.out.keep0 K3
      have d3 := Blk.cellsAt (vs := [.int .i64 r1, .int .i64 r2, .int .i64 0, .int .i64 0]) (Blk.new w2 144 _)
      have hB3 : w.heap.size + 3 ≤ (w2.alloc (.cells #[.int .i64 r1, .int .i64 r2, .int .i64 0, .int .i64 0] 144)).heap.size := by have h1 := HK.out.size; have h2 := K3.size; omega
      clear hF
      generalize w2.alloc (.cells #[.int .i64 r1, .int .i64 r2, .int .i64 0, .int .i64 0] 144) = w3 at *
      (simp only [Act.put, List.setIfInBounds_toArray, List.set_cons_zero, List.set_cons_succ])
      refine ap_one 8 (by kernel_rfl) ?_
      refine op_app 8 1 (.tmp 15) (.tmp 22) 140 rfl (by rfl) rfl slice_trm r3 rfl rfl d3 rfl (by intro u hu; simp at hu; rcases hu with rfl | rfl | rfl | rfl <;> rfl) hB3 (by omega) (by unfold maxLen; omega) ?_
      intro v' w4 o4 k4 _
      refine ⟨fun h => (by cases h), ?_⟩
      obtain ⟨n1, n2, n3⟩ := boxed_append r3 v3 (by decide) k4 o4
      have hne := own_blk_ne r3 v3 (by decide)
      have v4 := v3.keep k4 (by simpa using hne)
      (simp only [Act.put, List.setIfInBounds_toArray, List.set_cons_zero, List.set_cons_succ])
      refine ap_one 9 (by kernel_rfl) ?_
      obtain ⟨A', c', rfl⟩ := own_shape o4
      refine op_store1 9 rfl (by rfl) rfl rfl rfl (by kernel_rfl) rfl rfl (v4.cell 0) (v4.frozen 0) ?_
      refine ⟨fun h => (by cases h), ap_done (by kernel_rfl) ?_ _⟩
      rw [noOut_normal]
      (simp only [Act.put])
      gi_wp2
      have hlt' := fun x hx => (r3.lt x (by simpa using hx)).1
      have n5 : Keep ((w.heap.size + 1) :: V.ownBlock.toList) W _ := (K3.mono (by simp)).trans n3 (fun y hy _ => hy)
      have e1 : (termsIn x.tasks (pre ++ [i])).length = (termsIn x.tasks pre).length + 1 := by rw [HE.out]; simp
      refine ⟨n5.from (fun y hy => ?_), Same.keep n5 (fun y hy => ?_), ⟨_, ?_, n1, ?_⟩⟩
      · rcases List.mem_cons.1 hy with rfl | hy
        · exact .inl (by omega)
        · exact .inr (own_cells HR.out y hy)
      · have hTW := HTb.out.keep0 KW
        have hz := KW.size
        have hz2 := HK.out.size
        have hzt := HTb.out.1
        simp only [List.mem_cons, List.not_mem_nil, or_false] at hy
        refine ⟨by rcases hy with rfl | rfl <;> omega, fun hm => ?_⟩
        rcases List.mem_cons.1 hm with h | h
        · rcases hy with rfl | rfl <;> omega
        · have := hlt' _ (by simpa using h)
          rcases hy with rfl | rfl <;> omega
      · rw [e1, HE.out, HTR.out]
        exact n2
      · refine HK.out.trans n5 (fun y hy hys => ?_)
        rcases List.mem_cons.1 hy with h | h
        · simp [h]
        · have := hlt' _ (by simpa using h); omega
    · have HE : Hid (termsIn x.tasks (pre ++ [i]) = termsIn x.tasks pre) := by
        show _ = _
        rw [termsIn_snoc]; unfold termAt; rw [List.getElem?_eq_none (by omega)]; simp
      gi_wp2
      refine ⟨KeepsFrom.refl _ _, Same.refl _ _, V, by rw [HE.out]; exact hrow, hv, hK⟩
  case done =>
    rintro D ys W hD rfl ⟨V, hrow, hv, hK⟩ hD2
    have hc := hv.cell 0
    simp at hc
    obtain ⟨A, c, rfl⟩ := own_shape hrow
    gi_wp2
    have hD3 := hD2
    refine ⟨by simp, .inl ⟨_, _, rfl, run_takeDeferred hD3, ?_⟩⟩
    have m2 := own_putObj (.deferred none) hrow hD3 rfl
    have m3 := (K0.trans hK (by intro y hy hlt; simp at hy; omega)).trans (keep_putObj _ D (.deferred none)) (fun y hy hlt => by simp at hy; omega)
    exact ⟨.slice A (termsOf x.tasks s).length c, by simp [results, Tryd.results60, go_sem]; rfl, A, c, rfl, own_base m2 (by omega), m3⟩
  case stop =>
    rintro D c pre W _ hpre hF _
    exact hF.elim
end Go.Proofs.YteflgdnekflbbaaDoor
