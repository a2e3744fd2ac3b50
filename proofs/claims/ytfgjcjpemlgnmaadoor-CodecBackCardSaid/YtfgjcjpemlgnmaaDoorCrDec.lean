/- codec.Decode: what it makes of a row of words; walked. Condition: the table of math/bits lies where the program's text lays it. -/
import Derived.Test.YtfgjcjpemlgnmaaDoorCrEdge
namespace Go.Proofs.YtfgjcjpemlgnmaaDoor
open Go.RowKit

theorem lonM_le (l : List Int) : ∀ (ks : List Nat) (lon : List Int) (st : Nat × Bool), st.1 ≤ l.length → (lonM l ks lon st).2.1 ≤ l.length
  | [], _, _, h => h
  | k :: ks, lon, st, h => by
    have e : lonM l (k :: ks) lon st = lonM l ks (lonStep l (lon, st) k).1 (lonStep l (lon, st) k).2 := rfl
    rw [e]
    exact lonM_le l ks _ _ (nextM_le l st 4096 h)
theorem taskM_le (l : List Int) (st : Nat × Bool) (h : st.1 ≤ l.length) : (taskM l st).2.1 ≤ l.length := by
  unfold taskM
  exact lonM_le l _ _ _ (nextM_le l _ 255 (nextM_le l _ 4096 (nextM_le l _ 4096 (nextM_le l _ 4096 h))))
theorem modeM_le (l : List Int) (st : Nat × Bool) (h : st.1 ≤ l.length) : (modeM l st).2.1 ≤ l.length := by
  unfold modeM
  exact qsM_le l _ (nextM_le l _ 4 (nextM_le l _ 65535 h)) _
theorem mapM4_le (l : List Int) (st : Nat × Bool) (h : st.1 ≤ l.length) : ∀ n, (mapM4 l st n).2.1 ≤ l.length
  | 0 => h
  | n + 1 => nextM_le l _ 4 (mapM4_le l st h n)
theorem offM_le (l : List Int) : ∀ (ks : List Nat) (lon : List Int) (st : Nat × Bool), st.1 ≤ l.length → (offM l ks lon st).2.1 ≤ l.length
  | [], _, _, h => h
  | k :: ks, lon, st, h => by
    have e : offM l (k :: ks) lon st = offM l ks (offStep l (lon, st) k).1 (offStep l (lon, st) k).2 := rfl
    rw [e]
    exact offM_le l ks _ _ (nextM_le l st 16384 h)
theorem edgeM_le (l : List Int) (x : Img) (st : Nat × Bool) (h : st.1 ≤ l.length) : (edgeM l x st).2.1 ≤ l.length := by
  have h1 := mapM4_le l _ (nextM_le l _ 3 (nextM_le l _ 8 (nextM_le l st 8 h))) 4
  unfold edgeM
  dsimp only
  split
  · exact offM_le l _ _ _ h1
  · exact h1
theorem edgeM_len (l : List Int) (x : Img) (st : Nat × Bool) : (edgeM l x st).1.offs.length = 16 ∧ (edgeM l x st).1.mp.length = 4 := by
  unfold edgeM
  dsimp only
  split
  · exact ⟨by dsimp only; rw [offM_len]; rfl, mapM4_len _ _ _⟩
  · exact ⟨rfl, mapM4_len _ _ _⟩
theorem tsM_le (l : List Int) (st : Nat × Bool) (h : st.1 ≤ l.length) : ∀ n, (tsM l st n).2.1 ≤ l.length
  | 0 => h
  | n + 1 => taskM_le l _ (tsM_le l st h n)
theorem msM_le (l : List Int) (st : Nat × Bool) (h : st.1 ≤ l.length) : ∀ n, (msM l st n).2.1 ≤ l.length
  | 0 => h
  | n + 1 => modeM_le l _ (msM_le l st h n)
theorem esM_le (l : List Int) (x : Img) (st : Nat × Bool) (h : st.1 ≤ l.length) : ∀ n, (esM l x st n).2.1 ≤ l.length
  | 0 => h
  | n + 1 => edgeM_le l _ _ (esM_le l x st h n)
theorem tsM_len (l : List Int) (st : Nat × Bool) : ∀ n, (tsM l st n).1.length = n
  | 0 => rfl
  | n + 1 => by
    have e : (tsM l st (n + 1)).1 = (tsM l st n).1 ++ [(taskM l (tsM l st n).2).1] := rfl
    rw [e, List.length_append, tsM_len l st n]; rfl
theorem msM_len (l : List Int) (st : Nat × Bool) : ∀ n, (msM l st n).1.length = n
  | 0 => rfl
  | n + 1 => by
    have e : (msM l st (n + 1)).1 = (msM l st n).1 ++ [(modeM l (msM l st n).2).1] := rfl
    rw [e, List.length_append, msM_len l st n]; rfl
theorem esM_len (l : List Int) (x : Img) (st : Nat × Bool) : ∀ n, (esM l x st n).1.length = n
  | 0 => rfl
  | n + 1 => by
    have e : (esM l x st (n + 1)).1 = (esM l x st n).1 ++ [(edgeM l { x with edges := (esM l x st n).1 } (esM l x st n).2).1] := rfl
    rw [e, List.length_append, esM_len l x st n]; rfl
/-- Where Decode stands. -/
structure DecS (w W : World) (R g : Nat) (A : Option Addr) (c : Nat) (l : List Int) (st : Nat × Bool) (x : Img) (vt vm ve : Value) (ms : List (Mdd × Option Addr × Nat)) : Prop where
  rdr : RdrAt W R A c l st
  img : Blk W g 26 #[.int .i64 x.res, vt, vm, ve]
  res : Blk W w.heap.size 26 #[.int .i64 0, .slice none 0 0, .slice none 0 0, .slice none 0 0]
  own : OwnImg W w.heap.size x vt vm ve ms
  keep : Keep [] w W
/-- What Decode answers. -/
def decR (l : List Int) : Img × Int := match progD l with | some x => (x, 0) | none => (⟨0, [], [], []⟩, 110)
section
variable {w W W' : World} {R g : Nat} {A : Option Addr} {c : Nat} {l : List Int} {st st' : Nat × Bool} {x : Img} {vt vm ve : Value} {ms : List (Mdd × Option Addr × Nat)}
theorem DecS.keep0 (h : DecS w W R g A c l st x vt vm ve ms) (k : Keep [] W W') : DecS w W' R g A c l st x vt vm ve ms :=
  ⟨h.rdr.keep0 k, h.img.keep0 k, h.res.keep0 k, h.own.keep0 k, h.keep.then k⟩
theorem DecS.rd (h : DecS w W R g A c l st x vt vm ve ms) (k : Keep [R] W W') (hr : RdrAt W' R A c l st') (hR : w.heap.size < R) (hg : g ≠ R) : DecS w W' R g A c l st' x vt vm ve ms :=
  ⟨hr, h.img.keep k (by simpa using hg), h.res.keep k (by simp; omega), h.own.keep k (fun y hy cs t fr hh => by
    simp only [List.mem_cons, List.not_mem_nil, or_false] at hy
    subst hy
    rw [show W.heap[y]? = _ from h.rdr] at hh
    cases hh
    decide), h.keep.trans k (fun y hy hlt => by simp at hy; omega)⟩
theorem DecS.ownR (h : DecS w W R g A c l st x vt vm ve ms) (k : Keep [R] W W') : OwnImg W' w.heap.size x vt vm ve ms := h.own.keep k (fun y hy cs t fr hh => by
    simp only [List.mem_cons, List.not_mem_nil, or_false] at hy
    subst hy
    rw [show W.heap[y]? = _ from h.rdr] at hh
    cases hh
    decide)
theorem DecS.store {cs : Array Value} {y : Img} (hr : RdrAt W R A c l st) (hi : Blk W g 26 cs) (hs : Blk W w.heap.size 26 #[.int .i64 0, .slice none 0 0, .slice none 0 0, .slice none 0 0]) (ho : OwnImg W w.heap.size y vt vm ve ms) (hk : Keep [] w W) (i : Nat) (v' : Value) (e : cs.setIfInBounds i v' = #[.int .i64 y.res, vt, vm, ve]) (hgR : g ≠ R) (hgz : w.heap.size < g) :
    DecS w (W.setCell ⟨g, i, none⟩ v') R g A c l st y vt vm ve ms := by
  have ks := keep_set W g i v'
  refine ⟨hr.keep ks (by simp; omega), by rw [← e]; exact hi.set_ i v', hs.keep ks (by simp; omega), ho.keep ks (fun y hy cs t fr hh => ?_), hk.trans ks (fun y hy hlt => by simp at hy; omega)⟩
  simp only [List.mem_cons, List.not_mem_nil, or_false] at hy
  subst hy
  rw [show W.heap[y]? = _ from hi] at hh
  cases hh
  decide
theorem DecS.app {e size n : Nat} {v : Value} {xs : List Value} (h : DecS w W R g A c l st x vt vm ve ms) (hrow : W.ownsRow w.heap.size e size v n xs) (he : e ≠ 74) (he' : e ≠ 26) (k : Keep v.ownBlock.toList W W') :
    RdrAt W' R A c l st ∧ Blk W' g 26 #[.int .i64 x.res, vt, vm, ve] ∧ Blk W' w.heap.size 26 #[.int .i64 0, .slice none 0 0, .slice none 0 0, .slice none 0 0] ∧ Keep [] w W' :=
  ⟨rdr_row h.rdr k hrow he, h.img.keep k (fun hm => unown_ne hrow h.img he' (by simpa using hm)), h.res.keep k (fun hm => unown_ne hrow h.res he' (by simpa using hm)), h.keep.trans k (fun y hy hlt => by have := row_base hrow y hy; omega)⟩
end

theorem img0_at (w : World) : ImgAt w ⟨none, 0, none, 0, none, 0, []⟩ ⟨0, [], [], []⟩ := ((OwnImg.nil w 0 0).at_).2.2.2
theorem results_blk_tmpR {P : Program} {w : World} {fn : Func} {p q : Tmp} {ty : TypeId} (h : fn.results = #[.cell p ty, .tmp q]) (tmps : Array Value) {g t : Nat} {vs : List Value} {v : Value} (hp : tmps.getD p undef = .pointer (some ⟨g, 0, none⟩)) (hq : tmps.getD q undef = v)
    (hb : Blk w g t vs.toArray) (hA : AggOf P ty vs.length) : (results fn tmps).run P w = .ok (.tuple #[.agg vs.toArray, v]) w := by
  have hp' : tmps[p]?.getD undef = .pointer (some ⟨g, 0, none⟩) := by simpa using hp
  have hq' : tmps[q]?.getD undef = v := by simpa using hq
  have hc : CellsAt w g 0 vs := fun j u hu => by rw [Nat.zero_add, hb.cell]; simpa using hu
  simp [results, h, hp', hq', asAddr, run_loadVar_agg hA hc]
set_option maxRecDepth 100000 in
set_option maxHeartbeats 4000000 in
theorem decode_any (A : Option Addr) (c : Nat) (l : List Int) (w : World) (hW : Reads w 1 A l.length (uw l)) (hlt : ∀ n ∈ l, 0 ≤ n ∧ n < 4294967296) (hlen : l.length ≤ 100000) (hT : Tab w) :
    Calls Tryd.prog 12 #[.slice A l.length c] w fun e w' => ∃ v,
      e = .returned (.tuple #[.agg (imgCells v (decR l).1).toArray, .int .i64 (decR l).2]) ∧ ImgAt w' v (decR l).1 ∧ Keep [] w w' := by
  obtain ⟨m0, hm0⟩ : ∃ r, nextM l (0, false) 1380273457 = r := ⟨_, rfl⟩
  obtain ⟨r0, hr0⟩ : ∃ r, nextM l (m0.2.1, m0.1 != 1380273457) 8 = r := ⟨_, rfl⟩
  obtain ⟨a0, ha0⟩ : ∃ r, nextM l r0.2 16 = r := ⟨_, rfl⟩
  obtain ⟨b0, hb0⟩ : ∃ r, nextM l a0.2 8 = r := ⟨_, rfl⟩
  obtain ⟨c0, hc0⟩ : ∃ r, nextM l b0.2 24 = r := ⟨_, rfl⟩
  have pm := nextM_le l (0, false) 1380273457 (Nat.zero_le _)
  rw [hm0] at pm
  have pr := nextM_le l (m0.2.1, m0.1 != 1380273457) 8 pm
  rw [hr0] at pr
  have pa := nextM_le l r0.2 16 pr
  rw [ha0] at pa
  have pb := nextM_le l a0.2 8 pa
  rw [hb0] at pb
  have pc := nextM_le l b0.2 24 pb
  rw [hc0] at pc
  have ia := nextM_in l hlt r0.2 16 (by decide)
  rw [ha0] at ia
  have ib := nextM_in l hlt a0.2 8 (by decide)
  rw [hb0] at ib
  have ic := nextM_in l hlt b0.2 24 (by decide)
  rw [hc0] at ic
  have HD : Hid (decM l = (⟨r0.1, (tsM l c0.2 a0.1.toNat).1, (msM l (tsM l c0.2 a0.1.toNat).2 b0.1.toNat).1, (esM l ⟨r0.1, (tsM l c0.2 a0.1.toNat).1, (msM l (tsM l c0.2 a0.1.toNat).2 b0.1.toNat).1, []⟩ (msM l (tsM l c0.2 a0.1.toNat).2 b0.1.toNat).2 c0.1.toNat).1⟩,
      (esM l ⟨r0.1, (tsM l c0.2 a0.1.toNat).1, (msM l (tsM l c0.2 a0.1.toNat).2 b0.1.toNat).1, []⟩ (msM l (tsM l c0.2 a0.1.toNat).2 b0.1.toNat).2 c0.1.toNat).2)) := by
    show _ = _; unfold decM; simp only [hm0, hr0, ha0, hb0, hc0]
  obtain ⟨a1, sta⟩ := a0
  obtain ⟨b1, stb⟩ := b0
  obtain ⟨c1, stc⟩ := c0
  dsimp only at HD pa pb pc ia ib ic hb0 hc0
  obtain ⟨na, rfl⟩ : ∃ n : Nat, a1 = (n : Int) := ⟨a1.toNat, by omega⟩
  obtain ⟨nb, rfl⟩ : ∃ n : Nat, b1 = (n : Int) := ⟨b1.toNat, by omega⟩
  obtain ⟨nc, rfl⟩ : ∃ n : Nat, c1 = (n : Int) := ⟨c1.toNat, by omega⟩
  simp only [Int.toNat_natCast] at HD
  have hna : na ≤ 16 := by omega
  have hnb : nb ≤ 8 := by omega
  have hnc : nc ≤ 24 := by omega
  have HN := fun W R st (hr : RdrAt W R A c l st) (k : Keep [] w W) (hR : w.heap.size < R) (hp : st.1 ≤ l.length) most => Lib.hid (next_st R A c l st most W hr ⟨fun w' k' => hW.keep0 (k.trans k' (fun y hy hlt => by simp at hy; omega)), hlt, hlen⟩ hp)
  obtain ⟨R, hR⟩ : ∃ R, R = w.heap.size + 1 := ⟨_, rfl⟩
  obtain ⟨W0, hW0⟩ : ∃ W0, (w.alloc (.cells #[.int .i64 0, .slice none 0 0, .slice none 0 0, .slice none 0 0] 26)).alloc (.cells #[.slice A l.length c, .int .i64 0, .bool false] 74) = W0 := ⟨_, rfl⟩
  have K0 : Keep [] w W0 := by rw [← hW0]; exact ((Keep.refl _ w).alloc _).alloc _
  have s0 : Blk W0 w.heap.size 26 #[.int .i64 0, .slice none 0 0, .slice none 0 0, .slice none 0 0] := by rw [← hW0]; exact (Blk.new _ _ _).alloc _
  have r0' : RdrAt W0 R A c l (0, false) := by
    rw [← hW0, hR]
    have := Blk.new (w.alloc (.cells #[.int .i64 0, .slice none 0 0, .slice none 0 0, .slice none 0 0] 26)) 74 #[.slice A l.length c, .int .i64 0, .bool false]
    rwa [World.size_alloc] at this
  have hRw : w.heap.size < R := by omega
  have HR : Hid (w.heap.size + 1 = R) := hR.symm
  have HW0 := Lib.hid hW0
  have hn0 := HN W0 R (0, false) r0' K0 hRw (Nat.zero_le _) 1380273457
  rw [hm0] at hn0
  clear hW0 hR hm0
  have hAR : 0 < l.length → ∃ b o, A = some ⟨b, o, none⟩ ∧ b ≠ R := fun h0 => by
    obtain ⟨b, o, e, hbw, _⟩ := hW.addr h0
    exact ⟨b, o, e, by omega⟩
  have hTR : 0 < R := by have := hT.1; omega
  go_enter Tryd.func12, Tryd.ntmps12
  go_wp2_with fail
  rw [HW0.out, HR.out]
  refine hn0.out.mono ?_
  rintro e w1 ⟨rfl, hr1, k1⟩
  have s1 := s0.keep k1 (by simp; omega)
  have K1 : Keep [] w w1 := K0.trans k1 (fun y hy hlt => by simp at hy; omega)
  have gc : w1.cell? ⟨R, 2, none⟩ = some (.bool m0.2.2) := by rw [hr1.cell]; rfl
  have gf := hr1.frozen 2
  have ks := keep_set w1 R 2 (.bool (m0.1 != 1380273457))
  have hr2 : RdrAt (w1.setCell ⟨R, 2, none⟩ (.bool (m0.1 != 1380273457))) R A c l (m0.2.1, m0.1 != 1380273457) := hr1.set_ 2 (.bool (m0.1 != 1380273457))
  have s2 := s1.keep ks (by simp; omega)
  have K2 := K1.trans ks (fun y hy hlt => by simp at hy; omega)
  have hn2 := HN _ R _ hr2 K2 hRw pm 8
  rw [hr0] at hn2
  clear hn0 r0' s0 K0 s1 K1 k1 ks hr1 hr0
  go_wp2_with fail
  refine hn2.out.mono ?_
  rintro e w3 ⟨rfl, hr3, k3⟩
  have s3 := s2.keep k3 (by simp; omega)
  have K3 : Keep [] w w3 := K2.trans k3 (fun y hy hlt => by simp at hy; omega)
  have hz3 := s3.lt
  have hR3 := hr3.lt
  clear hn2 s2 K2 k3 hr2 gc gf
  go_wp2_with (refine stop_store 26 (.tmp 5) (.tmp 22) rfl ?_)
  constructor
  refine wpList_store_all rfl 26 (.tmp 5) (.tmp 22) rfl rfl rfl (vs := [.int .i64 r0.1, .slice none 0 0, .slice none 0 0, .slice none 0 0]) agg_image.2 (Blk.new _ _ _) (by intro u hu; simp at hu; rcases hu with rfl | rfl <;> rfl) rfl ?_
  intro w4 d4 k4
  have ka := (Keep.refl [] w3).alloc (.cells #[.int .i64 0, .slice none 0 0, .slice none 0 0, .slice none 0 0] 26)
  have k34 : Keep [] w3 w4 := ka.trans k4 (fun y hy h => by simp at hy; omega)
  obtain ⟨g, hg⟩ : ∃ g, g = w3.heap.size := ⟨_, rfl⟩
  rw [← hg] at d4 ⊢
  have hgR : g ≠ R := by omega
  have hgz : w.heap.size < g := by omega
  have D4 : DecS w w4 R g A c l r0.2 ⟨r0.1, [], [], []⟩ (.slice none 0 0) (.slice none 0 0) (.slice none 0 0) [] := ⟨hr3.keep0 k34, d4, s3.keep0 k34, OwnImg.nil _ _ _, K3.then k34⟩
  clear hg ka k34 k4 d4 s3 K3 hr3 hz3 hR3
  have hn4 := HN w4 R r0.2 D4.rdr D4.keep hRw pr 16
  rw [ha0] at hn4
  go_wp2_with fail
  refine hn4.out.mono ?_
  rintro e w5 ⟨rfl, hr5, k5⟩
  have D5 := D4.rd k5 hr5 hRw hgR
  have hn5 := HN w5 R _ D5.rdr D5.keep hRw pa 8

  rw [hb0] at hn5
  clear hn4 D4 k5 hr5
  go_wp2_with fail
  refine hn5.out.mono ?_
  rintro e w6 ⟨rfl, hr6, k6⟩
  have D6 := D5.rd k6 hr6 hRw hgR
  have hn6 := HN w6 R _ D6.rdr D6.keep hRw pb 24

  rw [hc0] at hn6
  clear hn5 D5 k6 hr6
  go_wp2_with fail
  refine hn6.out.mono ?_
  rintro e w7 ⟨rfl, hr7, k7⟩
  have D7 := D6.rd k7 hr7 hRw hgR
  clear hn6 D6 k7 hr7

  have HD7 := Lib.hid D7
  clear D7 ia ib ic ha0 hb0 hc0
  go_wp2
  go_loopw [30] (fun vi wr => ∃ (k : Nat) (vt : Value), k ≤ na ∧ vi = .int .i64 (k : Int) ∧ DecS w wr R g A c l (tsM l stc k).2 ⟨r0.1, (tsM l stc k).1, [], []⟩ vt (.slice none 0 0) (.slice none 0 0) []) (fun vi _ => na - (intOf vi).toNat)
  case atStart => exact ⟨0, _, Nat.zero_le _, rfl, HD7.out⟩
  case round =>
    obtain ⟨k, vt, hk, rfl, hD⟩ := hrel
    by_cases hkl : k < na
    · skip
      have hpk := tsM_le l stc pc k
      have hsc : tsM l stc (k + 1) = ((tsM l stc k).1 ++ [(taskM l (tsM l stc k).2).1], (taskM l (tsM l stc k).2).2) := rfl
      have hln := tsM_len l stc k
      obtain ⟨⟨ts, stp⟩, hq⟩ : ∃ p, tsM l stc k = p := ⟨_, rfl⟩
      rw [hq] at hD hpk hsc hln
      dsimp only at hD hpk hsc hln
      have ht8 := (taskM_rd l hlt stp).2
      obtain ⟨⟨t, stq⟩, hra⟩ : ∃ p, taskM l stp = p := ⟨_, rfl⟩
      rw [hra] at hsc ht8
      dsimp only at hsc ht8
      obtain rfl : ts.length = k := hln
      have HSC := Lib.hid hsc
      have HDD := Lib.hid hD
      have hnG : g ∉ vt.ownBlock.toList := fun hm => unown_ne hD.own.tasks hD.img (by decide) (by simpa using hm)
      have hG : ∀ w', Keep (R :: vt.ownBlock.toList) wr w' → w'.cell? ⟨g, 1, none⟩ = some vt ∧ CellsAt w' g 0 [.int .i64 r0.1, vt, .slice none 0 0, .slice none 0 0] := fun w' k => ⟨(hD.img.keep k (by simp; exact ⟨hgR, by simpa using hnG⟩)).cell 1, (hD.img.keep k (by simp; exact ⟨hgR, by simpa using hnG⟩)).cellsAt⟩
      have hgl := hD.img.lt
      have p0 : (0 : Int) ≤ ((ts.length : Nat) : Int) := by omega
      have p9 : ((ts.length : Nat) : Int) < (na : Int) := by omega
      clear hsc hD
      go_wp2
      refine ap_begin 7 (Keep (R :: vt.ownBlock.toList) wr) rfl (Keep.refl _ _).drew (fun hS hPan => ?_) (fun _ _ d _ _ h => by cases d <;> exact h)
      (refine ap_val (v := ?_) 0 rfl (by kernel_rfl) (by kernel_rfl) (by kernel_rfl) (by kernel_rfl) (by rfl) hPan ?_ hS ?_; rotate_left; (intro w' hSw; go_simp; try with_reducible rfl); simp only [Act.put, List.setIfInBounds_toArray, List.set_cons_zero, List.set_cons_succ])
      (refine ap_val (v := ?_) 1 rfl (by kernel_rfl) (by kernel_rfl) (by kernel_rfl) (by kernel_rfl) (by rfl) hPan ?_ hS ?_; rotate_left; (intro w' hSw; obtain ⟨f1,_f⟩ := hG w' hSw; go_simp; try with_reducible rfl); simp only [Act.put, List.setIfInBounds_toArray, List.set_cons_zero, List.set_cons_succ])
      (refine ap_val (v := ?_) 2 rfl (by kernel_rfl) (by kernel_rfl) (by kernel_rfl) (by kernel_rfl) (by rfl) hPan ?_ hS ?_; rotate_left; (intro w' hSw; go_simp; try with_reducible rfl); simp only [Act.put, List.setIfInBounds_toArray, List.set_cons_zero, List.set_cons_succ])
      have kd : Keep [] wr wr.drew := (Keep.refl [] wr).drew
      have D0 := HDD.out.keep0 kd
      have hcl := rtask_read R A c l stp wr.drew D0.rdr (hW.keep0 D0.keep) hAR hlt hlen hpk (hT.keep0 D0.keep) hTR
      rw [hra] at hcl
      refine ap_one 3 (by kernel_rfl) ?_
      refine op_call (f := 24) 3 rfl (by rfl) rfl (by simp only [List.map_toArray, List.map_cons, List.map_nil]; rfl) Tryd.func24 (by kernel_rfl) (by kernel_rfl) hcl ?_
      rintro e w4 ⟨rfl, hr4, k4⟩
      have D4 := D0.rd k4 hr4 hRw hgR

      have ky : Keep [R] wr w4 := (kd.mono (by simp)).trans k4 (fun y hy _ => hy)
      have hS4 : Keep (R :: vt.ownBlock.toList) wr w4 := ky.mono (fun y hy _ => by simp at hy; simp [hy])
      refine ⟨_, rfl, fun _ => hS4, ?_⟩
      (simp only [Act.put, List.setIfInBounds_toArray, List.set_cons_zero, List.set_cons_succ])
      replace hS := hS4
      clear hS4 k4 hcl D0 kd hr4 ky
      have kA : Keep [] w4 (w4.alloc (.cells (tskCells t).toArray 57)) := (Keep.refl [] w4).alloc _
      have DA : CellsAt (w4.alloc (.cells (tskCells t).toArray 57)) w4.heap.size 0 (tskCells t) := (Blk.new w4 57 (tskCells t).toArray).cellsAt
      refine ap_one 4 (by kernel_rfl) ?_
      refine op_run (v := .slice (some ⟨w4.heap.size, 0, none⟩) 1 1) (w' := w4.alloc (.cells (tskCells t).toArray 57)) 4 rfl (by rfl) (exec_slice_one slice_task (cs := tskCells t) (tskCells_len ht8) (by decide) rfl _) ?_
      refine ⟨fun _ => hS.alloc _, ?_⟩
      replace hS := hS.alloc (.cells (tskCells t).toArray 57)
      (simp only [Act.put, List.setIfInBounds_toArray, List.set_cons_zero, List.set_cons_succ])
      have D6 := D4.keep0 kA

      generalize w4.alloc (.cells (tskCells t).toArray 57) = w6 at *
      have OA : w6.ownsRow w.heap.size 57 11 vt ts.length (ts.flatMap tskCells) := D6.own.tasks
      have h64 : w.heap.size ≤ w6.heap.size := D6.keep.size
      refine ap_one 5 (by kernel_rfl) ?_
      refine op_app 5 1 (.tmp 33) (.tmp 36) 22 rfl (by rfl) rfl slice_task OA rfl rfl DA (by rw [tskCells_len ht8]) (iv_one _) (by omega) (by omega) (by unfold maxLen; omega) ?_
      intro v' w7 hown7 k7 hnew
      have hS7 : Keep (R :: vt.ownBlock.toList) wr w7 := hS.trans k7 (fun x hx _ => by simp [hx])
      refine ⟨fun _ => hS7, ?_⟩
      (simp only [Act.put, List.setIfInBounds_toArray, List.set_cons_zero, List.set_cons_succ])
      replace hS := hS7
      (refine ap_val (v := ?_) 6 rfl (by kernel_rfl) (by kernel_rfl) (by kernel_rfl) (by kernel_rfl) (by rfl) hPan ?_ hS ?_; rotate_left; (intro w' hSw; go_simp; try with_reducible rfl); simp only [Act.put, List.setIfInBounds_toArray, List.set_cons_zero, List.set_cons_succ])
      obtain ⟨q1, q2, q3, q4⟩ := D6.app OA (by decide) (by decide) k7
      have HF := Lib.hid (DecS.store (y := ⟨r0.1, ts ++ [t], [], []⟩) q1 q2 q3 (D6.own.task t ht8 k7 hown7) q4 1 v' rfl hgR hgz)
      obtain ⟨A', c', rfl⟩ := own_shape hown7
      refine ap_one 7 (by kernel_rfl) ?_
      refine op_store1 7 rfl (by rfl) rfl rfl rfl rfl rfl rfl (q2.cell 1) (q2.frozen 1) ?_
      refine ⟨fun h => (by cases h), ap_done (by kernel_rfl) ?_ _⟩
      (simp only [Act.put])
      clear hS hS7 hPan kA DA OA hown7 k7 q1 q2 q3 q4 hnew D4 D6 hG hnG
      go_wp2
      go_roundw
      case rel => exact ⟨ts.length + 1, _, by omega, by go_num, by rw [HSC.out]; exact HF.out⟩
      case measure => simp [intOf] <;> omega
    · obtain rfl : k = na := by omega
      have pt := tsM_le l stc pc k
      have ht1 := tsM_len l stc k
      generalize tsM l stc k = TT at *
      obtain ⟨ts, st2⟩ := TT
      dsimp only at hD pt ht1 HD
      obtain rfl := ht1
      have HD8 := Lib.hid hD
      clear hD
      go_wp2
      go_loopw [41] (fun vi wr => ∃ (k : Nat) (vm : Value) (ms : List (Mdd × Option Addr × Nat)), k ≤ nb ∧ vi = .int .i64 (k : Int) ∧ DecS w wr R g A c l (msM l st2 k).2 ⟨r0.1, ts, (msM l st2 k).1, []⟩ vt vm (.slice none 0 0) ms) (fun vi _ => nb - (intOf vi).toNat)
      case atStart => exact ⟨0, _, _, Nat.zero_le _, rfl, HD8.out⟩
      case round =>
        obtain ⟨k, vm, ms, hk, rfl, hD⟩ := hrel
        by_cases hkl : k < nb
        · skip
          have hpk := msM_le l st2 pt k
          have hsc : msM l st2 (k + 1) = ((msM l st2 k).1 ++ [(modeM l (msM l st2 k).2).1], (modeM l (msM l st2 k).2).2) := rfl
          have hln := msM_len l st2 k
          obtain ⟨⟨mds, stp⟩, hq⟩ : ∃ p, msM l st2 k = p := ⟨_, rfl⟩
          rw [hq] at hD hpk hsc hln
          dsimp only at hD hpk hsc hln
          have hms := (modeM_rd l hlt stp).2
          obtain ⟨⟨m, stq⟩, hra⟩ : ∃ p, modeM l stp = p := ⟨_, rfl⟩
          rw [hra] at hsc hms
          dsimp only at hsc hms
          obtain rfl : mds.length = k := hln
          have HSC := Lib.hid hsc
          have HDD := Lib.hid hD
          have hnG : g ∉ vm.ownBlock.toList := fun hm => unown_ne hD.own.modes hD.img (by decide) (by simpa using hm)
          have hG : ∀ w', Keep (R :: vm.ownBlock.toList) wr w' → w'.cell? ⟨g, 2, none⟩ = some vm ∧ CellsAt w' g 0 [.int .i64 r0.1, vt, vm, .slice none 0 0] := fun w' k => ⟨(hD.img.keep k (by simp; exact ⟨hgR, by simpa using hnG⟩)).cell 2, (hD.img.keep k (by simp; exact ⟨hgR, by simpa using hnG⟩)).cellsAt⟩
          have hgl := hD.img.lt
          have p0 : (0 : Int) ≤ ((mds.length : Nat) : Int) := by omega
          have p9 : ((mds.length : Nat) : Int) < (nb : Int) := by omega
          clear hsc hD
          go_wp2
          refine ap_begin 7 (Keep (R :: vm.ownBlock.toList) wr) rfl (Keep.refl _ _).drew (fun hS hPan => ?_) (fun _ _ d _ _ h => by cases d <;> exact h)
          (refine ap_val (v := ?_) 0 rfl (by kernel_rfl) (by kernel_rfl) (by kernel_rfl) (by kernel_rfl) (by rfl) hPan ?_ hS ?_; rotate_left; (intro w' hSw; go_simp; try with_reducible rfl); simp only [Act.put, List.setIfInBounds_toArray, List.set_cons_zero, List.set_cons_succ])
          (refine ap_val (v := ?_) 1 rfl (by kernel_rfl) (by kernel_rfl) (by kernel_rfl) (by kernel_rfl) (by rfl) hPan ?_ hS ?_; rotate_left; (intro w' hSw; obtain ⟨f1,_f⟩ := hG w' hSw; go_simp; try with_reducible rfl); simp only [Act.put, List.setIfInBounds_toArray, List.set_cons_zero, List.set_cons_succ])
          (refine ap_val (v := ?_) 2 rfl (by kernel_rfl) (by kernel_rfl) (by kernel_rfl) (by kernel_rfl) (by rfl) hPan ?_ hS ?_; rotate_left; (intro w' hSw; go_simp; try with_reducible rfl); simp only [Act.put, List.setIfInBounds_toArray, List.set_cons_zero, List.set_cons_succ])
          have kd : Keep [] wr wr.drew := (Keep.refl [] wr).drew
          have D0 := HDD.out.keep0 kd
          have hcl := rmode_read R A c l stp wr.drew D0.rdr ⟨fun w' k' => hW.keep0 (D0.keep.trans k' (fun y hy hlt => by simp at hy; omega)), hlt, hlen⟩ hpk
          rw [hra] at hcl
          refine ap_one 3 (by kernel_rfl) ?_
          refine op_call (f := 25) 3 rfl (by rfl) rfl (by simp only [List.map_toArray, List.map_cons, List.map_nil]; rfl) Tryd.func25 (by kernel_rfl) (by kernel_rfl) hcl ?_
          rintro e w4 ⟨Aq, cq, rfl, hoq, hr4, k4⟩
          have D4 := D0.rd k4 hr4 hRw hgR
          replace hoq := own_base hoq D0.keep.size
          have ky : Keep [R] wr w4 := (kd.mono (by simp)).trans k4 (fun y hy _ => hy)
          have hS4 : Keep (R :: vm.ownBlock.toList) wr w4 := ky.mono (fun y hy _ => by simp at hy; simp [hy])
          refine ⟨_, rfl, fun _ => hS4, ?_⟩
          (simp only [Act.put, List.setIfInBounds_toArray, List.set_cons_zero, List.set_cons_succ])
          replace hS := hS4
          clear hS4 k4 hcl D0 kd hr4 ky
          have kA : Keep [] w4 (w4.alloc (.cells (mddCells (m, Aq, cq)).toArray 47)) := (Keep.refl [] w4).alloc _
          have DA : CellsAt (w4.alloc (.cells (mddCells (m, Aq, cq)).toArray 47)) w4.heap.size 0 (mddCells (m, Aq, cq)) := (Blk.new w4 47 (mddCells (m, Aq, cq)).toArray).cellsAt
          refine ap_one 4 (by kernel_rfl) ?_
          refine op_run (v := .slice (some ⟨w4.heap.size, 0, none⟩) 1 1) (w' := w4.alloc (.cells (mddCells (m, Aq, cq)).toArray 47)) 4 rfl (by rfl) (exec_slice_one slice_mode (cs := mddCells (m, Aq, cq)) rfl (by decide) rfl _) ?_
          refine ⟨fun _ => hS.alloc _, ?_⟩
          replace hS := hS.alloc (.cells (mddCells (m, Aq, cq)).toArray 47)
          (simp only [Act.put, List.setIfInBounds_toArray, List.set_cons_zero, List.set_cons_succ])
          have D6 := D4.keep0 kA
          replace hoq := own_keep0 hoq kA
          generalize w4.alloc (.cells (mddCells (m, Aq, cq)).toArray 47) = w6 at *
          have OA : w6.ownsRow w.heap.size 47 2 vm mds.length (ms.flatMap mddCells) := D6.own.modes
          have h64 : w.heap.size ≤ w6.heap.size := D6.keep.size
          refine ap_one 5 (by kernel_rfl) ?_
          refine op_app 5 1 (.tmp 44) (.tmp 47) 23 rfl (by rfl) rfl slice_mode OA rfl rfl DA rfl (by intro u hu; simp [mddCells] at hu; rcases hu with rfl | rfl <;> rfl) (by omega) (by omega) (by unfold maxLen; omega) ?_
          intro v' w7 hown7 k7 hnew
          have hS7 : Keep (R :: vm.ownBlock.toList) wr w7 := hS.trans k7 (fun x hx _ => by simp [hx])
          refine ⟨fun _ => hS7, ?_⟩
          (simp only [Act.put, List.setIfInBounds_toArray, List.set_cons_zero, List.set_cons_succ])
          replace hS := hS7
          (refine ap_val (v := ?_) 6 rfl (by kernel_rfl) (by kernel_rfl) (by kernel_rfl) (by kernel_rfl) (by rfl) hPan ?_ hS ?_; rotate_left; (intro w' hSw; go_simp; try with_reducible rfl); simp only [Act.put, List.setIfInBounds_toArray, List.set_cons_zero, List.set_cons_succ])
          obtain ⟨q1, q2, q3, q4⟩ := D6.app OA (by decide) (by decide) k7
          have HF := Lib.hid (DecS.store (y := ⟨r0.1, ts, mds ++ [m], []⟩) q1 q2 q3 (D6.own.mode m (by omega) hoq k7 hown7) q4 2 v' rfl hgR hgz)
          obtain ⟨A', c', rfl⟩ := own_shape hown7
          refine ap_one 7 (by kernel_rfl) ?_
          refine op_store1 7 rfl (by rfl) rfl rfl rfl rfl rfl rfl (q2.cell 2) (q2.frozen 2) ?_
          refine ⟨fun h => (by cases h), ap_done (by kernel_rfl) ?_ _⟩
          (simp only [Act.put])
          clear hS hS7 hPan kA DA OA hown7 k7 q1 q2 q3 q4 hnew D4 D6 hG hnG
          go_wp2
          go_roundw
          case rel => exact ⟨mds.length + 1, _, _, by omega, by go_num, by rw [HSC.out]; exact HF.out⟩
          case measure => simp [intOf] <;> omega
        · obtain rfl : k = nb := by omega
          have pm3 := msM_le l st2 pt k
          have hm1 := msM_len l st2 k
          have hset := (msM_rd l hlt st2 k).2.2
          generalize msM l st2 k = M at *
          obtain ⟨mds, st3⟩ := M
          dsimp only at hD pm3 hm1 HD hset
          obtain rfl := hm1
          obtain ⟨ta, tc, rfl⟩ := own_shape hD.own.tasks
          obtain ⟨ma, mc, rfl⟩ := own_shape hD.own.modes
          have HD9 := Lib.hid hD
          clear hD
          go_wp2
          go_loopw [52] (fun vi wr => ∃ (k : Nat) (ve : Value), k ≤ nc ∧ vi = .int .i64 (k : Int) ∧ DecS w wr R g A c l (esM l ⟨r0.1, ts, mds, []⟩ st3 k).2 ⟨r0.1, ts, mds, (esM l ⟨r0.1, ts, mds, []⟩ st3 k).1⟩ (.slice ta ts.length tc) (.slice ma mds.length mc) ve ms) (fun vi _ => nc - (intOf vi).toNat)
          case atStart => exact ⟨0, _, Nat.zero_le _, rfl, HD9.out⟩
          case round =>
            obtain ⟨k, ve, hk, rfl, hD⟩ := hrel
            by_cases hkl : k < nc
            · skip
              have hpk := esM_le l ⟨r0.1, ts, mds, []⟩ st3 pm3 k
              have hsc : esM l ⟨r0.1, ts, mds, []⟩ st3 (k + 1) = ((esM l ⟨r0.1, ts, mds, []⟩ st3 k).1 ++ [(edgeM l ⟨r0.1, ts, mds, (esM l ⟨r0.1, ts, mds, []⟩ st3 k).1⟩ (esM l ⟨r0.1, ts, mds, []⟩ st3 k).2).1], (edgeM l ⟨r0.1, ts, mds, (esM l ⟨r0.1, ts, mds, []⟩ st3 k).1⟩ (esM l ⟨r0.1, ts, mds, []⟩ st3 k).2).2) := rfl
              have hln := esM_len l ⟨r0.1, ts, mds, []⟩ st3 k
              obtain ⟨⟨es, stp⟩, hq⟩ : ∃ p, esM l ⟨r0.1, ts, mds, []⟩ st3 k = p := ⟨_, rfl⟩
              rw [hq] at hD hpk hsc hln
              dsimp only at hD hpk hsc hln
              have hel := edgeM_len l ⟨r0.1, ts, mds, es⟩ stp
              obtain ⟨⟨ed, stq⟩, hra⟩ : ∃ p, edgeM l ⟨r0.1, ts, mds, es⟩ stp = p := ⟨_, rfl⟩
              rw [hra] at hsc hel
              dsimp only at hsc hel
              obtain rfl : es.length = k := hln
              obtain ⟨ea, ec, rfl⟩ := own_shape hD.own.edges
              have HSC := Lib.hid hsc
              have HDD := Lib.hid hD
              have hnG : g ∉ (Value.slice ea es.length ec).ownBlock.toList := fun hm => unown_ne hD.own.edges hD.img (by decide) (by simpa using hm)
              have hG : ∀ w', Keep (R :: (Value.slice ea es.length ec).ownBlock.toList) wr w' → w'.cell? ⟨g, 3, none⟩ = some (Value.slice ea es.length ec) ∧ CellsAt w' g 0 [.int .i64 r0.1, .slice ta ts.length tc, .slice ma mds.length mc, .slice ea es.length ec] := fun w' k => ⟨(hD.img.keep k (by simp; exact ⟨hgR, by simpa using hnG⟩)).cell 3, (hD.img.keep k (by simp; exact ⟨hgR, by simpa using hnG⟩)).cellsAt⟩
              have hgl := hD.img.lt
              have p0 : (0 : Int) ≤ ((es.length : Nat) : Int) := by omega
              have p9 : ((es.length : Nat) : Int) < (nc : Int) := by omega
              clear hsc hD
              go_wp2
              refine ap_begin 8 (Keep (R :: (Value.slice ea es.length ec).ownBlock.toList) wr) rfl (Keep.refl _ _).drew (fun hS hPan => ?_) (fun _ _ d _ _ h => by cases d <;> exact h)
              (refine ap_val (v := ?_) 0 rfl (by kernel_rfl) (by kernel_rfl) (by kernel_rfl) (by kernel_rfl) (by rfl) hPan ?_ hS ?_; rotate_left; (intro w' hSw; go_simp; try with_reducible rfl); simp only [Act.put, List.setIfInBounds_toArray, List.set_cons_zero, List.set_cons_succ])
              (refine ap_val (v := ?_) 1 rfl (by kernel_rfl) (by kernel_rfl) (by kernel_rfl) (by kernel_rfl) (by rfl) hPan ?_ hS ?_; rotate_left; (intro w' hSw; obtain ⟨f1,_f⟩ := hG w' hSw; go_simp; try with_reducible rfl); simp only [Act.put, List.setIfInBounds_toArray, List.set_cons_zero, List.set_cons_succ])
              (refine ap_val (v := ?_) 2 rfl (by kernel_rfl) (by kernel_rfl) (by kernel_rfl) (by kernel_rfl) (by rfl) hPan ?_ hS ?_; rotate_left; (intro w' hSw; go_simp; try with_reducible rfl); simp only [Act.put, List.setIfInBounds_toArray, List.set_cons_zero, List.set_cons_succ])
              refine ap_agg 3 26 (.tmp 5) [.int .i64 r0.1, .slice ta ts.length tc, .slice ma mds.length mc, .slice ea es.length ec] rfl (by kernel_rfl) (by kernel_rfl) (by kernel_rfl) (by kernel_rfl) (by rfl) hPan rfl rfl agg_image (fun w' h => (hG w' h).2) hS ?_
              (simp only [Act.put, List.setIfInBounds_toArray, List.set_cons_zero, List.set_cons_succ])
              have kd : Keep [] wr wr.drew := (Keep.refl [] wr).drew
              have D0 := HDD.out.keep0 kd
              have hcl := redge_read R A c l stp ⟨ta, tc, ma, mc, ea, ec, ms.map (·.2)⟩ ⟨r0.1, ts, mds, es⟩ wr.drew D0.rdr (hW.keep0 D0.keep) hAR hlt hlen hpk (hT.keep0 D0.keep) hTR (fun w' k' => ((D0.ownR k').at_).2.2.2) hset
              rw [hra] at hcl
              refine ap_one 4 (by kernel_rfl) ?_
              refine op_call (f := 26) 4 rfl (by rfl) rfl (by simp only [List.map_toArray, List.map_cons, List.map_nil]; rfl) Tryd.func26 (by kernel_rfl) (by kernel_rfl) hcl ?_
              rintro e w4 ⟨rfl, hr4, k4⟩
              have D4 := D0.rd k4 hr4 hRw hgR

              have ky : Keep [R] wr w4 := (kd.mono (by simp)).trans k4 (fun y hy _ => hy)
              have hS4 : Keep (R :: (Value.slice ea es.length ec).ownBlock.toList) wr w4 := ky.mono (fun y hy _ => by simp at hy; simp [hy])
              refine ⟨_, rfl, fun _ => hS4, ?_⟩
              (simp only [Act.put, List.setIfInBounds_toArray, List.set_cons_zero, List.set_cons_succ])
              replace hS := hS4
              clear hS4 k4 hcl D0 kd hr4 ky
              have kA : Keep [] w4 (w4.alloc (.cells (edgCells ed).toArray 70)) := (Keep.refl [] w4).alloc _
              have DA : CellsAt (w4.alloc (.cells (edgCells ed).toArray 70)) w4.heap.size 0 (edgCells ed) := (Blk.new w4 70 (edgCells ed).toArray).cellsAt
              refine ap_one 5 (by kernel_rfl) ?_
              refine op_run (v := .slice (some ⟨w4.heap.size, 0, none⟩) 1 1) (w' := w4.alloc (.cells (edgCells ed).toArray 70)) 5 rfl (by rfl) (exec_slice_one slice_edge (cs := edgCells ed) (edgCells_len hel.1 hel.2) (by decide) rfl _) ?_
              refine ⟨fun _ => hS.alloc _, ?_⟩
              replace hS := hS.alloc (.cells (edgCells ed).toArray 70)
              (simp only [Act.put, List.setIfInBounds_toArray, List.set_cons_zero, List.set_cons_succ])
              have D6 := D4.keep0 kA

              generalize w4.alloc (.cells (edgCells ed).toArray 70) = w6 at *
              have OA : w6.ownsRow w.heap.size 70 23 (Value.slice ea es.length ec) es.length (es.flatMap edgCells) := D6.own.edges
              have h64 : w.heap.size ≤ w6.heap.size := D6.keep.size
              refine ap_one 6 (by kernel_rfl) ?_
              refine op_app 6 1 (.tmp 55) (.tmp 59) 24 rfl (by rfl) rfl slice_edge OA rfl rfl DA (by rw [edgCells_len hel.1 hel.2]) (iv_one _) (by omega) (by omega) (by unfold maxLen; omega) ?_
              intro v' w7 hown7 k7 hnew
              have hS7 : Keep (R :: (Value.slice ea es.length ec).ownBlock.toList) wr w7 := hS.trans k7 (fun x hx _ => by simp [hx])
              refine ⟨fun _ => hS7, ?_⟩
              (simp only [Act.put, List.setIfInBounds_toArray, List.set_cons_zero, List.set_cons_succ])
              replace hS := hS7
              (refine ap_val (v := ?_) 7 rfl (by kernel_rfl) (by kernel_rfl) (by kernel_rfl) (by kernel_rfl) (by rfl) hPan ?_ hS ?_; rotate_left; (intro w' hSw; go_simp; try with_reducible rfl); simp only [Act.put, List.setIfInBounds_toArray, List.set_cons_zero, List.set_cons_succ])
              obtain ⟨q1, q2, q3, q4⟩ := D6.app OA (by decide) (by decide) k7
              have HF := Lib.hid (DecS.store (y := ⟨r0.1, ts, mds, es ++ [ed]⟩) q1 q2 q3 (D6.own.edge ed hel k7 hown7) q4 3 v' rfl hgR hgz)
              obtain ⟨A', c', rfl⟩ := own_shape hown7
              refine ap_one 8 (by kernel_rfl) ?_
              refine op_store1 8 rfl (by rfl) rfl rfl rfl rfl rfl rfl (q2.cell 3) (q2.frozen 3) ?_
              refine ⟨fun h => (by cases h), ap_done (by kernel_rfl) ?_ _⟩
              (simp only [Act.put])
              clear hS hS7 hPan kA DA OA hown7 k7 q1 q2 q3 q4 hnew D4 D6 hG hnG
              go_wp2
              go_roundw
              case rel => exact ⟨es.length + 1, _, by omega, by go_num, by rw [HSC.out]; exact HF.out⟩
              case measure => simp [intOf] <;> omega
            · obtain rfl : k = nc := by omega
              have pe := esM_le l ⟨r0.1, ts, mds, []⟩ st3 pm3 k
              have he1 := esM_len l ⟨r0.1, ts, mds, []⟩ st3 k
              generalize esM l ⟨r0.1, ts, mds, []⟩ st3 k = E at *
              obtain ⟨es, st4⟩ := E
              dsimp only at hD pe HD he1
              obtain rfl := he1
              obtain ⟨ea, ec, rfl⟩ := own_shape hD.own.edges
              obtain ⟨p4, bad4⟩ := st4
              have himg := (hD.own.at_).2.2.2
              have HP : Hid (progD l = if bad4 = true ∨ p4 ≠ l.length then none else if (chkImg ⟨r0.1, ts, mds, es⟩).2 = 0 then some ⟨r0.1, ts, mds, es⟩ else none) := by show _ = _; unfold progD; rw [HD.out]
              have q1 : wr.cell? ⟨R, 1, none⟩ = some (.int .i64 (p4 : Int)) := by rw [hD.rdr.cell]; rfl
              have q2 : wr.cell? ⟨R, 2, none⟩ = some (.bool bad4) := by rw [hD.rdr.cell]; rfl
              have hres := hD.res
              have hgi := hD.img
              have hkp := hD.keep
              have how := hD.own
              have hz0 := hres.lt
              clear hD HD hset
              cases bad4 with
              | true =>
                have hdr : decR l = (⟨0, [], [], []⟩, 110) := by unfold decR; rw [HP.out, if_pos (.inl rfl)]
                clear HP himg
                go_wp2_with (refine stop_store 26 (.tmp 2) (.tmp 76) rfl ?_)
                constructor
                refine wpList_store_all rfl 26 (.tmp 2) (.tmp 76) rfl rfl rfl (vs := [.int .i64 0, .slice none 0 0, .slice none 0 0, .slice none 0 0]) agg_image.2 hres (by intro u hu; simp at hu; rcases hu with rfl | rfl <;> rfl) rfl ?_
                intro w5 d5 k5
                have hk5 := hkp.trans k5 (fun y hy hlt => by simp at hy; omega)
                go_wp2
                refine bodyPost_ret (results_blk_tmpR rfl _ rfl rfl d5 agg_image) rfl ?_
                rw [hdr]
                exact ⟨⟨none, 0, none, 0, none, 0, []⟩, rfl, img0_at _, hk5⟩
              | false =>
                by_cases hp4 : p4 = l.length
                · have hpn : ((p4 : Int) != (l.length : Int)) = false := by simp; omega
                  have HC := Lib.hid (check_any _ _ wr himg)
                  have HP2 : Hid (progD l = if (chkImg ⟨r0.1, ts, mds, es⟩).2 = 0 then some ⟨r0.1, ts, mds, es⟩ else none) := by show _ = _; rw [HP.out, if_neg (by rintro (h | h); exact (by cases h); exact h hp4)]
                  generalize hck : chkImg ⟨r0.1, ts, mds, es⟩ = ck at *
                  obtain ⟨ck1, ck2⟩ := ck
                  have HCS : Hid (CellsAt wr g 0 [.int .i64 r0.1, .slice ta ts.length tc, .slice ma mds.length mc, .slice ea es.length ec]) := hgi.cellsAt
                  have HCK := Lib.hid hck
                  clear HP hp4 hck
                  go_wp2_with (refine wpList_load_agg rfl 26 (.tmp 5) rfl rfl (cs := [.int .i64 r0.1, .slice ta ts.length tc, .slice ma mds.length mc, .slice ea es.length ec]) agg_image HCS.out ?_)
                  refine HC.out.mono ?_
                  rintro e w8 ⟨rfl, k8⟩
                  rw [chkRes]
                  have h8 := himg.keep0 k8
                  replace hres := hres.keep0 k8
                  replace how := how.keep0 k8
                  replace hgi := hgi.keep0 k8
                  replace hkp := hkp.then k8
                  have hz8 := k8.size
                  have HCS2 : Hid (CellsAt w8 g 0 [.int .i64 r0.1, .slice ta ts.length tc, .slice ma mds.length mc, .slice ea es.length ec]) := hgi.cellsAt
                  clear HC HCS himg k8 q1 q2
                  by_cases h0 : ck2 = 0
                  · have hcn : (ck2 != 0) = false := by simpa using h0
                    have hdr : decR l = (⟨r0.1, ts, mds, es⟩, 0) := by unfold decR; rw [HP2.out]; simp only [h0, if_true]
                    clear HP2 h0
                    go_wp2_with (first
                      | (refine wpList_load_agg rfl 26 (.tmp 5) rfl rfl (cs := [.int .i64 r0.1, .slice ta ts.length tc, .slice ma mds.length mc, .slice ea es.length ec]) agg_image HCS2.out ?_)
                      | (refine stop_store 26 (.tmp 2) (.tmp 85) rfl ?_))
                    constructor
                    refine wpList_store_all rfl 26 (.tmp 2) (.tmp 85) rfl rfl rfl (vs := [.int .i64 r0.1, .slice ta ts.length tc, .slice ma mds.length mc, .slice ea es.length ec]) agg_image.2 hres (by intro u hu; simp at hu; rcases hu with rfl | rfl | rfl | rfl <;> rfl) rfl ?_
                    intro w5 d5 k5
                    have hk5 := hkp.trans k5 (fun y hy hlt => by simp at hy; omega)
                    clear HCS2
                    go_wp2
                    refine bodyPost_ret (results_blk_tmpR rfl _ rfl rfl d5 agg_image) rfl ?_
                    rw [hdr]
                    refine ⟨⟨ta, tc, ma, mc, ea, ec, ms.map (·.2)⟩, rfl, ?_, hk5⟩
                    exact ((how.keep k5 (fun y hy cs t fr hh => by
                      simp only [List.mem_cons, List.not_mem_nil, or_false] at hy
                      subst hy
                      rw [show w8.heap[w.heap.size]? = _ from hres] at hh
                      cases hh
                      decide)).at_).2.2.2
                  · have hcn : (ck2 != 0) = true := by simpa using h0
                    have hdr : decR l = (⟨0, [], [], []⟩, 110) := by unfold decR; rw [HP2.out]; simp only [if_neg h0]
                    clear HP2 h0 HCS2 h8 hgi
                    go_wp2_with (refine stop_store 26 (.tmp 2) (.tmp 84) rfl ?_)
                    constructor
                    refine wpList_store_all rfl 26 (.tmp 2) (.tmp 84) rfl rfl rfl (vs := [.int .i64 0, .slice none 0 0, .slice none 0 0, .slice none 0 0]) agg_image.2 hres (by intro u hu; simp at hu; rcases hu with rfl | rfl <;> rfl) rfl ?_
                    intro w5 d5 k5
                    have hk5 := hkp.trans k5 (fun y hy hlt => by simp at hy; omega)
                    go_wp2
                    refine bodyPost_ret (results_blk_tmpR rfl _ rfl rfl d5 agg_image) rfl ?_
                    rw [hdr]
                    exact ⟨⟨none, 0, none, 0, none, 0, []⟩, rfl, img0_at _, hk5⟩
                · have hpn : ((p4 : Int) != (l.length : Int)) = true := by simp; omega
                  have hdr : decR l = (⟨0, [], [], []⟩, 110) := by unfold decR; rw [HP.out, if_pos (.inr hp4)]
                  clear HP himg
                  go_wp2_with (refine stop_store 26 (.tmp 2) (.tmp 76) rfl ?_)
                  constructor
                  refine wpList_store_all rfl 26 (.tmp 2) (.tmp 76) rfl rfl rfl (vs := [.int .i64 0, .slice none 0 0, .slice none 0 0, .slice none 0 0]) agg_image.2 hres (by intro u hu; simp at hu; rcases hu with rfl | rfl <;> rfl) rfl ?_
                  intro w5 d5 k5
                  have hk5 := hkp.trans k5 (fun y hy hlt => by simp at hy; omega)
                  go_wp2
                  refine bodyPost_ret (results_blk_tmpR rfl _ rfl rfl d5 agg_image) rfl ?_
                  rw [hdr]
                  exact ⟨⟨none, 0, none, 0, none, 0, []⟩, rfl, img0_at _, hk5⟩
end Go.Proofs.YtfgjcjpemlgnmaaDoor
