/- The document's candidates (remontoirref09) of a device's sectors (law09's sectors); walked. Condition: the device is one that may be, of at least six sectors of thirteen words. The document's candidate of a bank (remontoirref09's bank); walked. Condition: rows of at least 13 words, at least three of them. The document's candidates (remontoirref09); walked. Condition: rows of at least 13 words, at least six of them. -/
import Derived.Test.YteanpgkonhdbpaaSrKeep
import Derived.Test.YteanpgkonhdbpaaPend
namespace Go.Proofs.Yteanpgkonhdbpaa
open Go.RowKit

/-- A row of words, and where it lies. -/
structure SecP where
  l : List Nat
  a : Option Addr
  c : Nat
abbrev secCell (x : SecP) : Value := .slice x.a x.l.length x.c
structure SecsAt (W : World) (A : Option Addr) (ps : List SecP) : Prop where
  rows : Reads W 1 A ps.length (ps.map secCell)
  each : ∀ x ∈ ps, Reads W 1 x.a x.l.length (wordsV x.l)
theorem SecsAt.keep0 {W W' : World} {A : Option Addr} {ps : List SecP} (h : SecsAt W A ps) (k : Keep [] W W') : SecsAt W' A ps := ⟨h.rows.keep0 k, fun x hx => (h.each x hx).keep0 k⟩
theorem slice_secs : SliceOf Try.prog 103 54 1 24 := ⟨Try.underlying103, by kernel_rfl, by decide⟩
theorem own_slice_n {B e c n : Nat} {xs : List Value} {W : World} {A : Option Addr} (h : W.ownsRow B e 1 (.slice A n c) n xs) (hn : 0 < n) : ∃ q, A = some ⟨q, 0, none⟩ ∧ n ≤ c := by
  rcases h.2 with ⟨_, h0⟩ | ⟨q, cap, cur, hv, _, hg, hle, _⟩
  · omega
  · injection hv with e1 _ e3
    subst e1
    subst e3
    exact ⟨q, rfl, hle⟩
def RetSecs (w : World) (d : Dev) (e : Ending) (w' : World) : Prop :=
  ∃ (q c : Nat) (ps : List SecP), ps.map SecP.l = (List.range d.ns).map (sectL d) ∧ e = .returned (.slice (some ⟨q, 0, none⟩) d.ns c) ∧ d.ns ≤ c ∧ SecsAt w' (some ⟨q, 0, none⟩) ps ∧ Keep [] w w'
set_option maxRecDepth 100000 in
set_option maxHeartbeats 2000000 in
theorem lsectors_any (g b1 b2 : Nat) (d : Dev) (w : World) (hd : DevAt w g b1 b2 d) (ho : d.Ok) : Calls Try.prog 54 #[.pointer (some ⟨g, 0, none⟩)] w (RetSecs w d) := by
  have hns := ho.ns2
  have hns1 := ho.ns1
  have HNS : Hid (∀ W, Keep [] w W → Calls Try.prog 60 #[.pointer (some ⟨g, 0, none⟩)] W fun e w' => e = .returned (.int .i64 (d.ns : Int)) ∧ W = w') := fun W k => fsectors_any g b1 b2 d W (hd.keep0 k) ho
  have HSE : Hid (∀ W (i : Nat), Keep [] w W → i < d.ns → Calls Try.prog 39 #[.pointer (some ⟨g, 0, none⟩), .int .i64 (i : Int)] W (RetWords W (sectL d i))) := fun W i k hi => by
    have := fsector_any g b1 b2 d (i : Int) W (hd.keep0 k) ho
    rw [show sectS d (i : Int) = sectL d i by unfold sectS; rw [if_pos (by omega), Int.toNat_natCast]] at this
    exact this
  clear hd ho
  have HD : Hid (∀ i, d.ns = i → RetSecs w d = RetSecs w d) := fun _ _ => rfl
  clear HD
  obtain ⟨ns, hns2⟩ : ∃ ns, d.ns = ns := ⟨_, rfl⟩
  have HN2 := Lib.hid hns2
  rw [hns2] at HNS HSE hns hns1
  have HN1 : Hid (0 < ns) := hns1
  clear hns1
  clear hns2
  go_enter Try.func54, Try.ntmps54
  go_wp2_with fail
  go_loopw [3, 4] (fun v3 v4 wr => ∃ (i : Nat) (ps : List SecP), i ≤ ns ∧ v4 = .int .i64 (i : Int) ∧ ps.map SecP.l = (List.range i).map (sectL d) ∧ wr.ownsRow w.heap.size 54 1 v3 i (ps.map secCell) ∧ (∀ x ∈ ps, wr.ownsRow w.heap.size 33 1 (.slice x.a x.l.length x.c) x.l.length (wordsV x.l)) ∧ Keep [] w wr) (fun _ v4 _ => ns - (intOf v4).toNat)
  case atStart => exact ⟨0, [], Nat.zero_le _, rfl, rfl, World.ownsRow_nil _ _ _ _, (fun x hx => by cases hx), Keep.refl _ _⟩
  case round =>
    obtain ⟨i, ps, hi, rfl, hps, hrow, hws, hk⟩ := hrel
    have hlo := hrow.lt
    obtain ⟨A, c, rfl⟩ := own_shape hrow
    have HRow := Lib.hid hrow
    have HWs := Lib.hid hws
    have HK := Lib.hid hk
    have hsz := hk.size
    have hnsc := HNS.out _ hk
    clear hk
    by_cases hlt : i < ns
    · have p1 : decide ((i : Int) < (ns : Int)) = true := decide_eq_true (by omega)
      have p2 : ((i : Int) < (ns : Int)) = True := eq_true (by omega)
      have p3 : (i < ns) = True := eq_true hlt
      have hse := HSE.out _ i HK.out hlt
      clear hrow hws
      go_wp2_with fail
      refine hnsc.mono ?_
      rintro e w2 ⟨rfl, rfl⟩
      clear hnsc
      go_wp2_with fail
      refine hse.mono ?_
      rintro e w3 ⟨A3, c3, rfl, ho3, k3⟩
      clear hse p1 p2 p3
      have hrow3 := own_keep0 HRow.out k3
      have hz3 := k3.size
      have HX3 := Lib.hid (own_base ho3 hsz)
      have HWs3 : Hid (∀ x ∈ ps, w3.ownsRow w.heap.size 33 1 (.slice x.a x.l.length x.c) x.l.length (wordsV x.l)) := fun x hx => own_keep0 (HWs.out x hx) k3
      have HK3 := Lib.hid (HK.out.then k3)
      have HLS : Hid ((sectL d i).length = (sectL d i).length) := Lib.hid rfl
      obtain ⟨sl, hsl⟩ : ∃ sl, sectL d i = sl := ⟨_, rfl⟩
      rw [hsl] at HX3 ⊢
      have HSL := Lib.hid hsl
      clear k3 ho3 HRow HWs HK hsl HLS
      go_wp2_with (at_builtin; refine wpList_append_one rfl (.tmp 11) (.tmp 15) 103 rfl slice_secs hrow3 rfl rfl (us := [.slice A3 sl.length c3]) rfl (by simp [Value.oneCell']) (by omega) (by omega) (by unfold maxLen; omega) ?_; intro v' w4 hown hk4 hat)
      have hty : ∀ y, y ∈ (Value.slice A i c).ownBlock.toList → ∃ cs fr, w3.heap[y]? = some (.cells cs 54 fr) := row_typed hrow3
      have hno : ∀ {A' : Option Addr} {n' c' : Nat} {xs' : List Value}, w3.ownsRow w.heap.size 33 1 (.slice A' n' c') n' xs' → w4.ownsRow w.heap.size 33 1 (.slice A' n' c') n' xs' := fun ho => own_keep ho hk4 (fun y hy hm => by
        obtain ⟨cs, fr, hh⟩ := hty y hm
        exact unown_ne ho hh (by decide) hy)
      have HN4 : Hid (∃ ps' : List SecP, ps'.map SecP.l = (List.range (i + 1)).map (sectL d) ∧ w4.ownsRow w.heap.size 54 1 v' (i + 1) (ps'.map secCell) ∧ (∀ x ∈ ps', w4.ownsRow w.heap.size 33 1 (.slice x.a x.l.length x.c) x.l.length (wordsV x.l)) ∧ Keep [] w w4) := by
        refine ⟨ps ++ [⟨sl, A3, c3⟩], ?_, ?_, fun x hx => ?_, HK3.out.trans hk4 (fun y hy hl => ?_)⟩
        · rw [List.map_append, hps, List.range_succ, List.map_append, List.map_singleton, List.map_singleton, HSL.out]
        · rw [List.map_append]
          exact hown
        · rcases List.mem_append.1 hx with hx | hx
          · exact hno (HWs3.out x hx)
          · simp at hx
            subst hx
            exact hno HX3.out
        · have := (hlo y (by simpa using hy)).1
          omega
      clear hown hk4 hat hty hno hlo hrow3 HK3 HX3 HWs3 HSL hps
      go_wp2
      go_roundw
      case rel =>
        obtain ⟨ps', h1, h2, h3, h4⟩ := HN4.out
        exact ⟨i + 1, ps', by omega, by go_num, h1, h2, h3, h4⟩
      case measure => simp [intOf] <;> omega
    · obtain rfl : i = ns := by omega
      have p1 : decide ((i : Int) < (i : Int)) = false := decide_eq_false (by omega)
      clear hrow hws hlt
      have HPS := Lib.hid hps
      clear hps
      go_wp2_with fail
      refine hnsc.mono ?_
      rintro e w2 ⟨rfl, rfl⟩
      clear hnsc
      go_wp2_with fail
      go_ret
      have hpl : ps.length = i := by have := congrArg List.length HPS.out; simpa using this
      obtain ⟨q, rfl, hcap⟩ := own_slice_n HRow.out HN1.out
      refine ⟨q, c, ps, by rw [HN2.out]; exact HPS.out, by rw [HN2.out]; rfl, by rw [HN2.out]; exact hcap, ⟨by rw [hpl]; exact Reads.of_own HRow.out, fun x hx => Reads.of_own (HWs.out x hx)⟩, HK.out⟩
end Go.Proofs.Yteanpgkonhdbpaa

namespace Go.Proofs.Yteanpgkonhdbpaa
open Go.RowKit

theorem reads_pre {w : World} {A : Option Addr} {n : Nat} {l : List Nat} (h : Reads w 1 A n (wordsV l)) (m : Nat) (hm : m ≤ n) : Reads w 1 A m (wordsV (l.take m)) := by
  refine ⟨?_, fun h0 => ?_⟩
  · have := h.len
    rw [Nat.mul_one] at this
    simp only [wordsV, List.length_map] at this ⊢
    rw [List.length_take]
    omega
  · obtain ⟨b, o, e, hb, hc⟩ := h.addr (by omega)
    refine ⟨b, o, e, hb, fun j u hj => hc j u ?_⟩
    have hjm : j < m := by
      have := (List.getElem?_eq_some_iff.1 hj).1
      simp only [wordsV, List.length_map, List.length_take] at this
      omega
    simp only [wordsV, List.getElem?_map] at hj ⊢
    rw [List.getElem?_take, if_pos hjm] at hj
    exact hj
theorem crcL_bytes9 (l : List Nat) : 4294967295 - (bytesL l).foldl byteC 4294967295 = crcL l := by unfold crcL; rw [foldC_bytes]
/-- The data of a bank's rows. -/
def datD (ps : List SecP) (k : Nat) : List Nat := ((ps.take k).drop 2).flatMap SecP.l
theorem datD_succ {ps : List SecP} {k : Nat} (hk : k < ps.length) (h2 : 2 ≤ k) : datD ps (k + 1) = datD ps k ++ ps[k].l := by
  unfold datD
  rw [List.take_succ_eq_append_getElem hk, List.drop_append_of_le_length (by rw [List.length_take]; omega), List.flatMap_append]
  simp
theorem datD_len {ps : List SecP} {nw : Nat} (hl : ∀ x ∈ ps, x.l.length = nw) : ∀ (k : Nat), k ≤ ps.length → (datD ps k).length = (k - 2) * nw
  | 0, _ => by simp [datD]
  | 1, _ => by unfold datD; rw [List.drop_eq_nil_of_le (by rw [List.length_take]; omega)]; simp
  | 2, _ => by unfold datD; rw [List.drop_eq_nil_of_le (by rw [List.length_take]; omega)]; simp
  | k + 3, hk => by
    rw [datD_succ (k := k + 2) (by omega) (by omega), List.length_append, datD_len hl (k + 2) (by omega), hl _ (List.getElem_mem _)]
    show k * nw + nw = (k + 1) * nw
    rw [Nat.add_mul, Nat.one_mul]
theorem datD_lt {ps : List SecP} (h : ∀ x ∈ ps, ∀ y ∈ x.l, y < 4294967296) (k : Nat) : ∀ y ∈ datD ps k, y < 4294967296 := fun y hy => by
  unfold datD at hy
  obtain ⟨x, hx, hy⟩ := List.mem_flatMap.1 hy
  exact h x (List.mem_of_mem_take (List.mem_of_mem_drop hx)) y hy
/-- The document's candidate, plain. -/
def bankD (i : Nat) (x0 : Nat) (h : HdS) (dl : List Nat) : Option Cnd :=
  if x0 ≠ 4294967295 ∨ h.valid = false ∨ dl.length < h.long ∨ 4096 < h.long ∨ (h.conf = false ∧ 3 ≤ h.trials) then none
  else if crcL (dl.take h.long) ≠ h.check then none else some ⟨i, h.seq, !h.conf, dl.take h.long⟩
theorem agg_c9 : AggOf Try.prog 106 4 := ⟨by kernel_rfl, by kernel_rfl⟩
def RetC9 (w : World) (r : Option Cnd) (e : Ending) (w' : World) : Prop :=
  match r with
  | none => e = .returned (.tuple #[.agg zeroCnd, .bool false]) ∧ Keep [] w w'
  | some c => ∃ A cap, e = .returned (.tuple #[.agg (cndV c A cap).toArray, .bool true]) ∧ Reads w' 1 A c.words.length (wordsV c.words) ∧ Keep [] w w'
set_option maxRecDepth 100000 in
theorem run_build_c9 (i q : Nat) (t : Bool) (n : Nat) (A : Option Addr) (cap : Nat) (w : World) :
    (Instr.build 106 #[(0, .int .i64 (i : Int)), (1, .int .u32 (q : Int)), (2, .bool t), (3, .slice A n cap)]).run Try.prog w = .ok (.agg #[.int .i64 (i : Int), .int .u32 (q : Int), .bool t, .slice A n cap]) w := by
  kernel_rfl
set_option maxRecDepth 100000 in
theorem run_build_c90 (w : World) : (Instr.build 106 #[]).run Try.prog w = .ok (.agg zeroCnd) w := by
  kernel_rfl
set_option maxRecDepth 100000 in
set_option maxHeartbeats 4000000 in
theorem rbank_any (i nw : Nat) (A : Option Addr) (c : Nat) (ps : List SecP) (w : World) (h : SecsAt w A ps) (h3 : 3 ≤ ps.length) (h32 : ps.length ≤ 64) (hnw : 13 ≤ nw) (hnw2 : nw ≤ 1024) (hl : ∀ x ∈ ps, x.l.length = nw) (hlt : ∀ x ∈ ps, ∀ y ∈ x.l, y < 4294967296) :
    Calls Try.prog 93 #[.int .i64 (i : Int), .slice A ps.length c] w (RetC9 w (bankD i ((ps[0]'(by omega)).l.getD 0 0) (headH (ps[1]'(by omega)).l) (datD ps ps.length))) := by
  have B0 := Blk.new w 106 zeroCnd
  have k0 := (Keep.refl [] w).alloc (.cells zeroCnd 106)
  have HAS : Hid (AggOf Try.prog 145 6) := ⟨by kernel_rfl, by kernel_rfl⟩
  obtain ⟨q, o, rfl, hq, hqc⟩ := h.rows.addr (by omega)
  have hcell : ∀ W, Keep [] w W → ∀ k, (hk : k < ps.length) → W.cell? ⟨q, o + k, none⟩ = some (secCell ps[k]) := fun W kk k hk => (kk.cell (p := ⟨q, o + k, none⟩) hq (by simp)).trans (hqc k _ (by rw [List.getElem?_map, List.getElem?_eq_getElem hk]; rfl))
  have HC := Lib.hid hcell
  have HEA : Hid (∀ W, Keep [] w W → ∀ k, (hk : k < ps.length) → Reads W 1 ps[k].a nw (wordsV ps[k].l)) := fun W kk k hk => by
    have := (h.each _ (List.getElem_mem hk)).keep0 kk
    rw [hl _ (List.getElem_mem hk)] at this
    exact this
  have HLEN : Hid (∀ k, (hk : k < ps.length) → ps[k].l.length = nw) := fun k hk => hl _ (List.getElem_mem hk)
  have HRD : Hid (∀ W, Keep [] w W → Calls Try.prog 86 #[.slice (ps[1]'(by omega)).a nw (ps[1]'(by omega)).c] W fun e w' => e = .returned (.agg (hdCells (headH (ps[1]'(by omega)).l)).toArray) ∧ Keep [] W w') := fun W kk =>
    rhread_any _ nw _ _ W (hl _ (List.getElem_mem _)) (hlt _ (List.getElem_mem _)) (HEA.out W kk 1 (by omega))
  have HLG : Hid ((headH (ps[1]'(by omega)).l).long < 4294967296) := headH_long (hlt _ (List.getElem_mem _))
  have HDL : Hid (∀ k, k ≤ ps.length → (datD ps k).length = (k - 2) * nw) := datD_len hl
  have HDT : Hid (∀ y ∈ datD ps ps.length, y < 4294967296) := datD_lt hlt _
  have HDS : Hid (∀ k, (hk : k < ps.length) → 2 ≤ k → datD ps (k + 1) = datD ps k ++ ps[k].l) := fun k hk h2 => datD_succ hk h2
  have hx0 : ∃ b0 o0, (ps[0]'(by omega)).a = some ⟨b0, o0, none⟩ ∧ ∀ W, Keep [] w W → W.cell? ⟨b0, o0, none⟩ = some (.int .u32 (((ps[0]'(by omega)).l.getD 0 0 : Nat) : Int)) := by
    obtain ⟨b0, o0, e0, hb0, hc0⟩ := (HEA.out w (Keep.refl _ _) 0 (by omega)).addr (by omega)
    have hl0 := HLEN.out 0 (by omega)
    refine ⟨b0, o0, e0, fun W kk => (kk.cell (p := ⟨b0, o0, none⟩) hb0 (by simp)).trans ?_⟩
    have := hc0 0 (.int .u32 (((ps[0]'(by omega)).l.getD 0 0 : Nat) : Int)) (by
      rw [wordsV, List.getElem?_map, List.getElem?_eq_getElem (by omega), List.getD_eq_getElem?_getD, List.getElem?_eq_getElem (by omega)]
      rfl)
    exact this
  obtain ⟨b0, o0, e0, hc0⟩ := hx0
  have HC0 := Lib.hid hc0
  have HX : Hid (∀ r, bankD i ((ps[0]'(by omega)).l.getD 0 0) (headH (ps[1]'(by omega)).l) (datD ps ps.length) = r → r = if (ps[0]'(by omega)).l.getD 0 0 ≠ 4294967295 ∨ (headH (ps[1]'(by omega)).l).valid = false ∨ (datD ps ps.length).length < (headH (ps[1]'(by omega)).l).long ∨ 4096 < (headH (ps[1]'(by omega)).l).long ∨ ((headH (ps[1]'(by omega)).l).conf = false ∧ 3 ≤ (headH (ps[1]'(by omega)).l).trials) then none
    else if crcL ((datD ps ps.length).take (headH (ps[1]'(by omega)).l).long) ≠ (headH (ps[1]'(by omega)).l).check then none else some ⟨i, (headH (ps[1]'(by omega)).l).seq, !(headH (ps[1]'(by omega)).l).conf, (datD ps ps.length).take (headH (ps[1]'(by omega)).l).long⟩) := fun r e => e.symm
  have c00 := fun W kk => (HC.out W kk 0 (by omega))
  have c01 := fun W kk => (HC.out W kk 1 (by omega))
  have HT3 : Hid ((headH (ps[1]'(by omega)).l).trials ≤ 3) := headH_trials _
  rw [show secCell (ps[0]'(by omega)) = .slice (some ⟨b0, o0, none⟩) nw (ps[0]'(by omega)).c by unfold secCell; rw [e0, HLEN.out 0 (by omega)]] at c00
  rw [show secCell (ps[1]'(by omega)) = .slice (ps[1]'(by omega)).a nw (ps[1]'(by omega)).c by unfold secCell; rw [HLEN.out 1 (by omega)]] at c01
  have C00 := Lib.hid c00
  have C01 := Lib.hid c01
  have HMAX : Hid ((ps.length - 2) * nw ≤ 65536) := Nat.le_trans (Nat.mul_le_mul (show ps.length - 2 ≤ 64 by omega) hnw2) (by decide)
  have HROW : Hid (∀ k, k < ps.length → ∃ a cp l, (∀ W, Keep [] w W → W.cell? ⟨q, o + k, none⟩ = some (.slice a nw cp)) ∧ (∀ W, Keep [] w W → Reads W 1 a nw (wordsV l)) ∧ (2 ≤ k → datD ps (k + 1) = datD ps k ++ l)) := fun k hk => by
    refine ⟨ps[k].a, ps[k].c, ps[k].l, fun W kk => ?_, fun W kk => HEA.out W kk k hk, HDS.out k hk⟩
    have := HC.out W kk k hk
    unfold secCell at this
    rw [HLEN.out k hk] at this
    exact this
  clear h hl hlt hqc hcell e0 hc0 c00 c01 HC HEA HLEN HDS
  generalize (ps[0]'(by omega)).c = cp0 at *
  generalize (ps[1]'(by omega)).c = cp1 at *
  generalize (ps[1]'(by omega)).a = ap1 at *
  generalize (ps[0]'(by omega)).l.getD 0 0 = x0 at *
  generalize headH (ps[1]'(by omega)).l = hd at *
  obtain ⟨res, hres⟩ : ∃ res, bankD i x0 hd (datD ps ps.length) = res := ⟨_, rfl⟩
  rw [hres]
  have HRS := Lib.hid (HX.out res hres)
  clear hres HX
  have HB0 := Lib.hid B0
  have HK0 := Lib.hid k0
  clear B0 k0
  have pl3 : decide ((ps.length : Int) < 3) = false := decide_eq_false (by omega)
  have pl4 : ((ps.length : Int) < 3) = False := eq_false (by omega)
  have pl5 : (ps.length < 3) = False := eq_false (by omega)
  have pl6 : (0 : Int) < (ps.length : Int) := by omega
  have pl7 : (1 : Int) < (ps.length : Int) := by omega
  have pl8 : (0 : Int) < (nw : Int) := by omega
  generalize hpl : ps.length = n at *
  go_enter Try.func93, Try.ntmps93
  go_upto_region 1 with fail
  generalize w.alloc (.cells zeroCnd 106) = W at *
  have d00 : W.cell? ⟨q, o, none⟩ = some (.slice (some ⟨b0, o0, none⟩) nw cp0) := C00.out W HK0.out
  have d0w := HC0.out W HK0.out
  by_cases hx : x0 = 4294967295
  case neg =>
    have HR : Hid (res = none) := by show _ = _; rw [HRS.out, if_pos (.inl hx)]
    have q0 : ((x0 : Int) != 4294967295) = true := bne_iff_ne.2 (by omega)
    clear HRS
    go_upto_region 2 with fail
    go_wp2_with (refine stop_at 20 rfl ?_)
    constructor
    refine wpList_runsS rfl (v := .agg zeroCnd) (w' := W) (by
      simp only [execOp, Sem.run_bind, List.map_toArray, List.map_nil]
      change Result.andThen ((Instr.build 106 #[]).run Try.prog W) _ = _
      rw [run_build_c90]
      rfl) ?_
    go_wp2_with (refine wpList_store_all rfl 106 (.tmp 4) (.tmp 20) rfl rfl rfl (t := 106) (cs := zeroCnd) (vs := zeroCnd.toList) agg_c9.2 ?_ (by simp [Value.oneCell']) rfl ?_; exact HB0.out; intro w6 e6 k6)
    refine bodyPost_ret (results_blk_tmp rfl _ rfl rfl e6 agg_c9) rfl ?_
    rw [HR.out]
    exact ⟨rfl, (HK0.out).trans k6 (fun y hy hl => by simp only [List.mem_cons, List.not_mem_nil, or_false] at hy; omega)⟩
  rw [hx] at d0w HRS
  replace d0w : W.cell? ⟨b0, o0, none⟩ = some (.int .u32 4294967295) := d0w
  clear hx
  go_upto_region 3 with fail
  clear pl3 pl4 pl5 d0w d00
  have d01 : W.cell? ⟨q, o + 1, none⟩ = some (.slice ap1 nw cp1) := C01.out W HK0.out
  go_wp2_with fail
  refine (HRD.out W HK0.out).mono ?_
  rintro e w2 ⟨rfl, k2⟩
  go_wp2_with (refine stop_store 145 (.tmp 6) (.tmp 24) rfl ?_)
  constructor
  refine wpList_store_all rfl 145 (.tmp 6) (.tmp 24) rfl rfl rfl (t := 145) (cs := #[.int .u32 0, .int .u32 0, .int .u32 0, .bool false, .bool false, .int .i64 0]) (vs := hdCells hd) HAS.out.2 (Blk.new _ _ _) (by simp [Value.oneCell']) rfl ?_
  intro w5 e5 k5
  have K5 : Keep [] W w5 := k2.then (((Keep.refl [] w2).alloc _).trans k5 (fun y hy hl => by simp only [List.mem_cons, List.not_mem_nil, or_false] at hy; omega))
  have HE5 := Lib.hid e5
  have HK5 := Lib.hid (HK0.out.then K5)
  have HB5 := Lib.hid (HB0.out.keep0 K5)
  clear e5 k5 k2 K5 d01 HRD C00 C01 HB0 HK0 HC0
  generalize w2.heap.size = B6 at *
  go_wp2_with fail
  go_loopw [7, 8] (fun v7 v8 wr => ∃ k : Nat, 2 ≤ k ∧ k ≤ n ∧ v8 = .int .i64 (k : Int) ∧ wr.ownsRow w5.heap.size 33 1 v7 (datD ps k).length (wordsV (datD ps k)) ∧ Keep [] w5 wr) (fun _ v8 _ => n - (intOf v8).toNat)
  case atStart => exact ⟨2, by omega, by omega, rfl, by rw [show datD ps 2 = [] by unfold datD; rw [List.drop_eq_nil_of_le (by rw [List.length_take]; omega)]; rfl]; exact World.ownsRow_nil _ _ _ _, Keep.refl _ _⟩
  case round =>
    obtain ⟨k, hk2, hkn, rfl, hrow, hK⟩ := hrel
    by_cases hlt : k < n
    · obtain ⟨a, cp, l, g1, g2, g3⟩ := HROW.out k hlt
      have p1 : decide ((k : Int) < (n : Int)) = true := decide_eq_true (by omega)
      have p2 : ((k : Int) < (n : Int)) = True := eq_true (by omega)
      have p3 : (k < n) = True := eq_true hlt
      have p4 : (0 : Int) ≤ (k : Int) := by omega
      have cc := g1 _ (HK5.out.then hK)
      have hrd := g2 _ (HK5.out.then hK)
      have hm := HDL.out k hkn
      have hm2 : (k - 2) * nw ≤ 65536 := Nat.le_trans (Nat.mul_le_mul_right _ (by omega)) HMAX.out
      have hsz := hK.size
      have HG3 := Lib.hid (g3 hk2)
      have HKK := Lib.hid hK
      have hlo := hrow.lt
      have hone : ∀ u ∈ wordsV l, u.oneCell' = true := fun u hu => by
        obtain ⟨x, _, rfl⟩ := List.mem_map.1 hu
        rfl
      have hdl : (datD ps k).length ≤ 65536 := by omega
      clear g1 g2 g3 hK HAS HLG HT3 HDT hm hm2
      generalize hD : datD ps k = D at *
      generalize hDl : D.length = Dl at *
      obtain ⟨A7, c7, rfl⟩ := own_shape hrow
      go_wp2_with (at_builtin; refine wpList_append_reads rfl (.tmp 31) (.tmp 35) 54 rfl slice_u32 hrow rfl hrd rfl hone hsz (by omega) (by unfold maxLen; omega) ?_; intro v' w7 hown hk7 hat)
      have HN : Hid (w7.ownsRow w5.heap.size 33 1 v' (datD ps (k + 1)).length (wordsV (datD ps (k + 1))) ∧ Keep [] w5 w7) := by
        have hl5 : (wordsV l).length = nw := by have := hrd.len; simpa using this
        refine ⟨?_, HKK.out.trans hk7 (fun y hy hl => by have := (hlo y (by simpa using hy)).1; omega)⟩
        rw [HG3.out, List.length_append, hDl, show l.length = nw by simpa [wordsV] using hl5]
        unfold wordsV at hown ⊢
        rw [List.map_append]
        exact hown
      clear hown hk7 hat hlo hrow hrd cc hone
      go_wp2
      go_roundw
      case rel => exact ⟨k + 1, by omega, by omega, by go_num, HN.out.1, HN.out.2⟩
      case measure => simp [intOf] <;> omega
    · obtain rfl : k = n := by omega
      have p1 : decide ((k : Int) < (k : Int)) = false := decide_eq_false (by omega)
      have hdl := HDL.out k (Nat.le_refl _)
      have hpos : 0 < (k - 2) * nw := Nat.mul_pos (by omega) (by omega)
      have hmx := HMAX.out
      clear hlt HROW HDL HMAX
      go_upto_region 9 with fail
      clear p1
      generalize hD : datD ps k = D at *
      rw [hdl] at hrow
      obtain ⟨A7, cap, rfl⟩ := own_shape hrow
      obtain ⟨g, rfl, hcap⟩ := own_slice_n hrow hpos
      have hgb : w5.heap.size ≤ g := (hrow.lt g rfl).1
      have hbz : w.heap.size < w5.heap.size := HB5.out.lt
      have hgn : Hid (g ≠ w.heap.size) := by show _ ≠ _; omega
      clear hgb hbz
      have HRow := Lib.hid hrow
      have HKK := Lib.hid hK
      have hrr : Reads wr 1 (some ⟨g, 0, none⟩) ((k - 2) * nw) (wordsV D) := Reads.of_own hrow
      have HRR := Lib.hid hrr
      have HE6 := Lib.hid (HE5.out.keep0 hK)
      have HBX := Lib.hid (HB5.out.keep0 hK)
      have HKW := Lib.hid (HK5.out.then hK)
      have f1 : wr.cell? ⟨B6, 1, none⟩ = some (.int .u32 (hd.long : Int)) := HE6.out.cell 1
      have f3 : wr.cell? ⟨B6, 3, none⟩ = some (.bool hd.valid) := HE6.out.cell 3
      have f4 : wr.cell? ⟨B6, 4, none⟩ = some (.bool hd.conf) := HE6.out.cell 4
      have f5 : wr.cell? ⟨B6, 5, none⟩ = some (.int .i64 (hd.trials : Int)) := HE6.out.cell 5
      have hw3 : IntKind.i64.wrap (hd.long : Int) = (hd.long : Int) := IntWalk.i64_in _ (by have := HLG.out; omega)
      rw [hdl] at HRS
      clear hrow hK hrr HE5 HB5 HK5 HKK
      generalize hrm : (k - 2) * nw = rm at *
      generalize wr = wo at *
      cases hvl : hd.valid with
      | false =>
        have HR : Hid (res = none) := by show _ = _; rw [HRS.out, if_pos (.inr (.inl hvl))]
        rw [hvl] at f3
        clear HRS
        go_upto_region 10 with fail
        go_wp2_with (refine stop_at 64 rfl ?_)
        constructor
        refine wpList_runsS rfl (v := .agg zeroCnd) (w' := wo) (by
          simp only [execOp, Sem.run_bind, List.map_toArray, List.map_nil]
          change Result.andThen ((Instr.build 106 #[]).run Try.prog wo) _ = _
          rw [run_build_c90]
          rfl) ?_
        go_wp2_with (refine wpList_store_all rfl 106 (.tmp 4) (.tmp 64) rfl rfl rfl (t := 106) (cs := zeroCnd) (vs := zeroCnd.toList) agg_c9.2 ?_ (by simp [Value.oneCell']) rfl ?_; exact HBX.out; intro w6 e6 k6)
        refine bodyPost_ret (results_blk_tmp rfl _ rfl rfl e6 agg_c9) rfl ?_
        rw [HR.out]
        exact ⟨rfl, (HKW.out).trans k6 (fun y hy hl => by simp only [List.mem_cons, List.not_mem_nil, or_false] at hy; omega)⟩
      | true =>
      rw [hvl] at f3
      by_cases hlo : (rm : Int) < (hd.long : Int)
      · have HR : Hid (res = none) := by show _ = _; rw [HRS.out, if_pos (.inr (.inr (.inl (by omega))))]
        have p0 : decide ((rm : Int) < (hd.long : Int)) = true := decide_eq_true hlo
        have p1 : (rm < hd.long) = True := eq_true (by omega)
        clear HRS hlo
        go_upto_region 10 with fail
        go_wp2_with (refine stop_at 64 rfl ?_)
        constructor
        refine wpList_runsS rfl (v := .agg zeroCnd) (w' := wo) (by
          simp only [execOp, Sem.run_bind, List.map_toArray, List.map_nil]
          change Result.andThen ((Instr.build 106 #[]).run Try.prog wo) _ = _
          rw [run_build_c90]
          rfl) ?_
        go_wp2_with (refine wpList_store_all rfl 106 (.tmp 4) (.tmp 64) rfl rfl rfl (t := 106) (cs := zeroCnd) (vs := zeroCnd.toList) agg_c9.2 ?_ (by simp [Value.oneCell']) rfl ?_; exact HBX.out; intro w6 e6 k6)
        refine bodyPost_ret (results_blk_tmp rfl _ rfl rfl e6 agg_c9) rfl ?_
        rw [HR.out]
        exact ⟨rfl, (HKW.out).trans k6 (fun y hy hl => by simp only [List.mem_cons, List.not_mem_nil, or_false] at hy; omega)⟩
      have p0 : decide ((rm : Int) < (hd.long : Int)) = false := decide_eq_false hlo
      have p1 : (rm < hd.long) = False := eq_false (by omega)
      by_cases hl4 : (4096 : Int) < (hd.long : Int)
      · have HR : Hid (res = none) := by show _ = _; rw [HRS.out, if_pos (.inr (.inr (.inr (.inl (by omega)))))]
        have p2 : decide ((4096 : Int) < (hd.long : Int)) = true := decide_eq_true hl4
        have p3 : (4096 < hd.long) = True := eq_true (by omega)
        clear HRS hl4
        go_upto_region 10 with fail
        go_wp2_with (refine stop_at 64 rfl ?_)
        constructor
        refine wpList_runsS rfl (v := .agg zeroCnd) (w' := wo) (by
          simp only [execOp, Sem.run_bind, List.map_toArray, List.map_nil]
          change Result.andThen ((Instr.build 106 #[]).run Try.prog wo) _ = _
          rw [run_build_c90]
          rfl) ?_
        go_wp2_with (refine wpList_store_all rfl 106 (.tmp 4) (.tmp 64) rfl rfl rfl (t := 106) (cs := zeroCnd) (vs := zeroCnd.toList) agg_c9.2 ?_ (by simp [Value.oneCell']) rfl ?_; exact HBX.out; intro w6 e6 k6)
        refine bodyPost_ret (results_blk_tmp rfl _ rfl rfl e6 agg_c9) rfl ?_
        rw [HR.out]
        exact ⟨rfl, (HKW.out).trans k6 (fun y hy hl => by simp only [List.mem_cons, List.not_mem_nil, or_false] at hy; omega)⟩
      have p2 : decide ((4096 : Int) < (hd.long : Int)) = false := decide_eq_false hl4
      have p3 : (4096 < hd.long) = False := eq_false (by omega)
      by_cases hct : hd.conf = false ∧ 3 ≤ hd.trials
      · have HR : Hid (res = none) := by show _ = _; rw [HRS.out, if_pos (.inr (.inr (.inr (.inr hct))))]
        rw [hct.1] at f4
        have p4 : decide ((3 : Int) ≤ (hd.trials : Int)) = true := decide_eq_true (by omega)
        have p5 : (3 ≤ hd.trials) = True := eq_true hct.2
        have p6 : ((3 : Int) ≤ (hd.trials : Int)) = True := eq_true (by omega)
        clear HRS hct
        go_upto_region 10 with fail
        go_wp2_with (refine stop_at 64 rfl ?_)
        constructor
        refine wpList_runsS rfl (v := .agg zeroCnd) (w' := wo) (by
          simp only [execOp, Sem.run_bind, List.map_toArray, List.map_nil]
          change Result.andThen ((Instr.build 106 #[]).run Try.prog wo) _ = _
          rw [run_build_c90]
          rfl) ?_
        go_wp2_with (refine wpList_store_all rfl 106 (.tmp 4) (.tmp 64) rfl rfl rfl (t := 106) (cs := zeroCnd) (vs := zeroCnd.toList) agg_c9.2 ?_ (by simp [Value.oneCell']) rfl ?_; exact HBX.out; intro w6 e6 k6)
        refine bodyPost_ret (results_blk_tmp rfl _ rfl rfl e6 agg_c9) rfl ?_
        rw [HR.out]
        exact ⟨rfl, (HKW.out).trans k6 (fun y hy hl => by simp only [List.mem_cons, List.not_mem_nil, or_false] at hy; omega)⟩
      have HRS2 := HRS.out
      rw [if_neg (fun e => by rcases e with e | e | e | e | e; exact e rfl; (rw [hvl] at e; cases e); exact hlo (by omega); exact hl4 (by omega); exact hct e)] at HRS2
      replace HRS := Lib.hid HRS2
      clear HRS2
      have hgo : (hd.conf = true) ∨ (hd.conf = false ∧ ¬ 3 ≤ hd.trials) := by
        cases hx : hd.conf with
        | true => exact .inl rfl
        | false => exact .inr ⟨rfl, fun e => hct ⟨hx, e⟩⟩
      have HGO := Lib.hid hgo
      clear hct hgo
      have hll : hd.long ≤ rm := by omega
      have hl96 : hd.long ≤ 4096 := by omega
      have HLS : Hid ((D.take hd.long).length = hd.long) := by show _ = _; rw [List.length_take, hdl]; omega
      have HRS5 : Hid (∀ W', Keep [] wo W' → Reads W' 1 (some ⟨g, 0, none⟩) hd.long (wordsV (D.take hd.long))) := fun W' kk => reads_pre (HRR.out.keep0 kk) hd.long hll
      have HL32 : Hid (∀ y ∈ D.take hd.long, y < 4294967296) := fun y hy => HDT.out y (List.mem_of_mem_take hy)
      clear hlo hl4
      cases hcf : hd.conf with
      | true =>
        rw [hcf] at f4 HRS
        go_upto_region 11 with fail
        clear f1 f3 f4 f5 p0 p1 p2 p3 HGO
        have f1 : wo.cell? ⟨B6, 1, none⟩ = some (.int .u32 (hd.long : Int)) := HE6.out.cell 1
        have y1 : (hd.long : Int) ≤ (cap : Int) := by omega
        go_upto_region 12 with fail
        clear f1 y1 hw3
        have hX : ∀ W', Keep [] wo W' → W'.cell? ⟨B6, 2, none⟩ = some (.int .u32 (hd.check : Int)) ∧ True ∧ True := fun W' kk => ⟨(HE6.out.keep0 kk).cell 2, trivial, trivial⟩
        generalize D.take hd.long = ls at *
        have HBY : Hid (∀ W', Keep [] wo W' → Calls Try.prog 88 #[.slice (some ⟨g, 0, none⟩) hd.long cap] W' (RetBytes W' (bytesL ls))) := fun W' kk => rbytes_any _ hd.long _ ls W' HLS.out HL32.out (HRS5.out W' kk) (by omega)
        have HSM : Hid (∀ W' A c, Reads W' 1 A (bytesL ls).length (bytesC (bytesL ls)) → Calls Try.prog 87 #[.slice A (bytesL ls).length c] W' fun e w' => e = .returned (.int .u32 ((crcL ls : Nat) : Int)) ∧ W' = w') := fun W' A c h' => by
          have := rsum_any A (bytesL ls).length c (bytesL ls) W' rfl (bytesL_lt HL32.out) h' (by rw [bytesL_len, HLS.out]; omega)
          rw [crcL_bytes9] at this
          exact this
        refine ap_begin 5 (Keep [] wo) rfl (Keep.refl _ _).drew (fun hS hPan => ?_) (fun _ _ d _ _ h => by cases d <;> exact h)
        (refine ap_val (v := ?_) 0 rfl (by kernel_rfl) (by kernel_rfl) (by kernel_rfl) (by kernel_rfl) (by rfl) hPan ?_ hS ?_; rotate_left; (intro w' hSw; go_simp; try with_reducible rfl); simp only [Act.put, List.setIfInBounds_toArray, List.set_cons_zero, List.set_cons_succ])
        (refine ap_val (v := ?_) 3 rfl (by kernel_rfl) (by kernel_rfl) (by kernel_rfl) (by kernel_rfl) (by rfl) hPan ?_ hS ?_; rotate_left; (intro w' hSw; go_simp; try with_reducible rfl); simp only [Act.put, List.setIfInBounds_toArray, List.set_cons_zero, List.set_cons_succ])
        (refine ap_val (v := ?_) 4 rfl (by kernel_rfl) (by kernel_rfl) (by kernel_rfl) (by kernel_rfl) (by rfl) hPan ?_ hS ?_; rotate_left; (intro w' hSw; obtain ⟨f0,f1,f2⟩ := hX w' hSw; go_simp; try with_reducible rfl); simp only [Act.put, List.setIfInBounds_toArray, List.set_cons_zero, List.set_cons_succ])
        generalize wo.drew = wd at *
        refine ap_one 1 (by kernel_rfl) ?_
        refine op_call (f := 88) (vs := #[.slice (some ⟨g, 0, none⟩) hd.long cap]) 1 rfl (by kernel_rfl) rfl (by simp only [List.map_toArray, List.map_cons, List.map_nil]; rfl) Try.func88 (by kernel_rfl) (by kernel_rfl) (HBY.out wd hS) ?_
        rintro e w6 ⟨Ab, cb, rfl, hown, k6⟩
        have K6 := hS.then k6
        refine ⟨_, rfl, fun _ => K6, ?_⟩
        (simp only [Act.put, List.setIfInBounds_toArray, List.set_cons_zero, List.set_cons_succ])
        refine ap_one 2 (by kernel_rfl) ?_
        refine op_call (f := 87) (vs := #[.slice Ab (bytesL ls).length cb]) 2 rfl (by kernel_rfl) rfl (by simp only [List.map_toArray, List.map_cons, List.map_nil]; rfl) Try.func87 (by kernel_rfl) (by kernel_rfl) (HSM.out w6 Ab cb (Reads.of_own hown)) ?_
        rintro e w7 ⟨rfl, rfl⟩
        refine ⟨_, rfl, fun _ => K6, ?_⟩
        (simp only [Act.put, List.setIfInBounds_toArray, List.set_cons_zero, List.set_cons_succ])
        refine ap_one 5 (by kernel_rfl) ?_
        refine op_run (v := .bool (((crcL ls : Nat) : Int) != (hd.check : Int))) (w' := w6) 5 rfl (by kernel_rfl) (by go_simp) ?_
        refine ⟨fun h => (by cases h), ap_done (by kernel_rfl) ?_ _⟩
        (simp only [Act.put, List.setIfInBounds_toArray, List.set_cons_zero, List.set_cons_succ])
        have HK6 := Lib.hid (HKW.out.then K6)
        have HB6 := Lib.hid (HBX.out.keep0 K6)
        have HR6 := Lib.hid (HRS5.out w6 K6)
        have g0 : w6.cell? ⟨B6, 0, none⟩ = some (.int .u32 (hd.seq : Int)) := (HE6.out.keep0 K6).cell 0
        have g4 : w6.cell? ⟨B6, 4, none⟩ = some (.bool true) := by rw [← hcf]; exact (HE6.out.keep0 K6).cell 4
        generalize hcl : crcL ls = cr at *
        clear hS hPan hX hown k6 K6 HBY HSM HE6 HBX HKW HRS5
        by_cases hcc : cr = hd.check
        · have HR : Hid (res = some ⟨i, hd.seq, !true, ls⟩) := by show _ = _; rw [HRS.out, if_neg (fun e => e hcc)]
          have t0 : ((cr : Int) != (hd.check : Int)) = false := by simp; omega
          clear hcc HRS
          rw [t0]
          go_upto_region 14 with fail
          go_wp2_with (refine stop_at 84 rfl ?_)
          constructor
          refine wpList_runsS rfl (v := .agg #[.int .i64 (i : Int), .int .u32 (hd.seq : Int), .bool false, .slice (some ⟨g, 0, none⟩) hd.long cap]) (w' := w6) (by
            have hb := run_build_c9 i hd.seq false hd.long (some ⟨g, 0, none⟩) cap w6
            simp only [execOp, Sem.run_bind, List.map_toArray, List.map_cons, List.map_nil]
            change Result.andThen ((Instr.build 106 #[(0, .int .i64 (i : Int)), (1, .int .u32 (hd.seq : Int)), (2, .bool false), (3, .slice (some ⟨g, 0, none⟩) hd.long cap)]).run Try.prog w6) _ = _
            rw [hb]
            rfl) ?_
          go_wp2_with (refine wpList_store_all rfl 106 (.tmp 4) (.tmp 84) rfl rfl rfl (t := 106) (cs := zeroCnd) (vs := [.int .i64 (i : Int), .int .u32 (hd.seq : Int), .bool false, .slice (some ⟨g, 0, none⟩) hd.long cap]) agg_c9.2 ?_ (by simp [Value.oneCell']) rfl ?_; exact HB6.out; intro w8 e8 k8)
          refine bodyPost_ret (results_blk_tmp rfl _ rfl rfl e8 agg_c9) rfl ?_
          rw [HR.out]
          have hgw : g ∉ [w.heap.size] := by simp only [List.mem_cons, List.not_mem_nil, or_false]; exact hgn.out
          have hr8 : Reads w8 1 (some ⟨g, 0, none⟩) ls.length (wordsV ls) := by
            have := HR6.out.keep k8 (fun ad ha => by cases ha; exact hgw)
            rw [HLS.out]
            exact this
          refine ⟨some ⟨g, 0, none⟩, cap, ?_, hr8, HK6.out.trans k8 (fun y hy hl => by simp only [List.mem_cons, List.not_mem_nil, or_false] at hy; omega)⟩
          unfold cndV
          rw [HLS.out]
          rfl
        · have HR : Hid (res = none) := by show _ = _; rw [HRS.out, if_pos hcc]
          have t0 : ((cr : Int) != (hd.check : Int)) = true := bne_iff_ne.2 (by omega)
          clear hcc HRS
          rw [t0]
          go_upto_region 13 with fail
          go_wp2_with (refine stop_at 76 rfl ?_)
          constructor
          refine wpList_runsS rfl (v := .agg zeroCnd) (w' := w6) (by
            simp only [execOp, Sem.run_bind, List.map_toArray, List.map_nil]
            change Result.andThen ((Instr.build 106 #[]).run Try.prog w6) _ = _
            rw [run_build_c90]
            rfl) ?_
          go_wp2_with (refine wpList_store_all rfl 106 (.tmp 4) (.tmp 76) rfl rfl rfl (t := 106) (cs := zeroCnd) (vs := zeroCnd.toList) agg_c9.2 ?_ (by simp [Value.oneCell']) rfl ?_; exact HB6.out; intro w6 e6 k6)
          refine bodyPost_ret (results_blk_tmp rfl _ rfl rfl e6 agg_c9) rfl ?_
          rw [HR.out]
          exact ⟨rfl, (HK6.out).trans k6 (fun y hy hl => by simp only [List.mem_cons, List.not_mem_nil, or_false] at hy; omega)⟩
      | false =>
        rw [hcf] at f4 HRS
        have hgt : ¬ 3 ≤ hd.trials := by rcases HGO.out with e | e; (rw [hcf] at e; cases e); exact e.2
        have p4 : decide ((3 : Int) ≤ (hd.trials : Int)) = false := decide_eq_false (by omega)
        have p5 : (3 ≤ hd.trials) = False := eq_false hgt
        have p6 : ((3 : Int) ≤ (hd.trials : Int)) = False := eq_false (by omega)
        go_upto_region 11 with fail
        clear f1 f3 f4 f5 p0 p1 p2 p3 p4 p5 p6 hgt HGO
        have f1 : wo.cell? ⟨B6, 1, none⟩ = some (.int .u32 (hd.long : Int)) := HE6.out.cell 1
        have y1 : (hd.long : Int) ≤ (cap : Int) := by omega
        go_upto_region 12 with fail
        clear f1 y1 hw3
        have hX : ∀ W', Keep [] wo W' → W'.cell? ⟨B6, 2, none⟩ = some (.int .u32 (hd.check : Int)) ∧ True ∧ True := fun W' kk => ⟨(HE6.out.keep0 kk).cell 2, trivial, trivial⟩
        generalize D.take hd.long = ls at *
        have HBY : Hid (∀ W', Keep [] wo W' → Calls Try.prog 88 #[.slice (some ⟨g, 0, none⟩) hd.long cap] W' (RetBytes W' (bytesL ls))) := fun W' kk => rbytes_any _ hd.long _ ls W' HLS.out HL32.out (HRS5.out W' kk) (by omega)
        have HSM : Hid (∀ W' A c, Reads W' 1 A (bytesL ls).length (bytesC (bytesL ls)) → Calls Try.prog 87 #[.slice A (bytesL ls).length c] W' fun e w' => e = .returned (.int .u32 ((crcL ls : Nat) : Int)) ∧ W' = w') := fun W' A c h' => by
          have := rsum_any A (bytesL ls).length c (bytesL ls) W' rfl (bytesL_lt HL32.out) h' (by rw [bytesL_len, HLS.out]; omega)
          rw [crcL_bytes9] at this
          exact this
        refine ap_begin 5 (Keep [] wo) rfl (Keep.refl _ _).drew (fun hS hPan => ?_) (fun _ _ d _ _ h => by cases d <;> exact h)
        (refine ap_val (v := ?_) 0 rfl (by kernel_rfl) (by kernel_rfl) (by kernel_rfl) (by kernel_rfl) (by rfl) hPan ?_ hS ?_; rotate_left; (intro w' hSw; go_simp; try with_reducible rfl); simp only [Act.put, List.setIfInBounds_toArray, List.set_cons_zero, List.set_cons_succ])
        (refine ap_val (v := ?_) 3 rfl (by kernel_rfl) (by kernel_rfl) (by kernel_rfl) (by kernel_rfl) (by rfl) hPan ?_ hS ?_; rotate_left; (intro w' hSw; go_simp; try with_reducible rfl); simp only [Act.put, List.setIfInBounds_toArray, List.set_cons_zero, List.set_cons_succ])
        (refine ap_val (v := ?_) 4 rfl (by kernel_rfl) (by kernel_rfl) (by kernel_rfl) (by kernel_rfl) (by rfl) hPan ?_ hS ?_; rotate_left; (intro w' hSw; obtain ⟨f0,f1,f2⟩ := hX w' hSw; go_simp; try with_reducible rfl); simp only [Act.put, List.setIfInBounds_toArray, List.set_cons_zero, List.set_cons_succ])
        generalize wo.drew = wd at *
        refine ap_one 1 (by kernel_rfl) ?_
        refine op_call (f := 88) (vs := #[.slice (some ⟨g, 0, none⟩) hd.long cap]) 1 rfl (by kernel_rfl) rfl (by simp only [List.map_toArray, List.map_cons, List.map_nil]; rfl) Try.func88 (by kernel_rfl) (by kernel_rfl) (HBY.out wd hS) ?_
        rintro e w6 ⟨Ab, cb, rfl, hown, k6⟩
        have K6 := hS.then k6
        refine ⟨_, rfl, fun _ => K6, ?_⟩
        (simp only [Act.put, List.setIfInBounds_toArray, List.set_cons_zero, List.set_cons_succ])
        refine ap_one 2 (by kernel_rfl) ?_
        refine op_call (f := 87) (vs := #[.slice Ab (bytesL ls).length cb]) 2 rfl (by kernel_rfl) rfl (by simp only [List.map_toArray, List.map_cons, List.map_nil]; rfl) Try.func87 (by kernel_rfl) (by kernel_rfl) (HSM.out w6 Ab cb (Reads.of_own hown)) ?_
        rintro e w7 ⟨rfl, rfl⟩
        refine ⟨_, rfl, fun _ => K6, ?_⟩
        (simp only [Act.put, List.setIfInBounds_toArray, List.set_cons_zero, List.set_cons_succ])
        refine ap_one 5 (by kernel_rfl) ?_
        refine op_run (v := .bool (((crcL ls : Nat) : Int) != (hd.check : Int))) (w' := w6) 5 rfl (by kernel_rfl) (by go_simp) ?_
        refine ⟨fun h => (by cases h), ap_done (by kernel_rfl) ?_ _⟩
        (simp only [Act.put, List.setIfInBounds_toArray, List.set_cons_zero, List.set_cons_succ])
        have HK6 := Lib.hid (HKW.out.then K6)
        have HB6 := Lib.hid (HBX.out.keep0 K6)
        have HR6 := Lib.hid (HRS5.out w6 K6)
        have g0 : w6.cell? ⟨B6, 0, none⟩ = some (.int .u32 (hd.seq : Int)) := (HE6.out.keep0 K6).cell 0
        have g4 : w6.cell? ⟨B6, 4, none⟩ = some (.bool false) := by rw [← hcf]; exact (HE6.out.keep0 K6).cell 4
        generalize hcl : crcL ls = cr at *
        clear hS hPan hX hown k6 K6 HBY HSM HE6 HBX HKW HRS5
        by_cases hcc : cr = hd.check
        · have HR : Hid (res = some ⟨i, hd.seq, !false, ls⟩) := by show _ = _; rw [HRS.out, if_neg (fun e => e hcc)]
          have t0 : ((cr : Int) != (hd.check : Int)) = false := by simp; omega
          clear hcc HRS
          rw [t0]
          go_upto_region 14 with fail
          go_wp2_with (refine stop_at 84 rfl ?_)
          constructor
          refine wpList_runsS rfl (v := .agg #[.int .i64 (i : Int), .int .u32 (hd.seq : Int), .bool true, .slice (some ⟨g, 0, none⟩) hd.long cap]) (w' := w6) (by
            have hb := run_build_c9 i hd.seq true hd.long (some ⟨g, 0, none⟩) cap w6
            simp only [execOp, Sem.run_bind, List.map_toArray, List.map_cons, List.map_nil]
            change Result.andThen ((Instr.build 106 #[(0, .int .i64 (i : Int)), (1, .int .u32 (hd.seq : Int)), (2, .bool true), (3, .slice (some ⟨g, 0, none⟩) hd.long cap)]).run Try.prog w6) _ = _
            rw [hb]
            rfl) ?_
          go_wp2_with (refine wpList_store_all rfl 106 (.tmp 4) (.tmp 84) rfl rfl rfl (t := 106) (cs := zeroCnd) (vs := [.int .i64 (i : Int), .int .u32 (hd.seq : Int), .bool true, .slice (some ⟨g, 0, none⟩) hd.long cap]) agg_c9.2 ?_ (by simp [Value.oneCell']) rfl ?_; exact HB6.out; intro w8 e8 k8)
          refine bodyPost_ret (results_blk_tmp rfl _ rfl rfl e8 agg_c9) rfl ?_
          rw [HR.out]
          have hgw : g ∉ [w.heap.size] := by simp only [List.mem_cons, List.not_mem_nil, or_false]; exact hgn.out
          have hr8 : Reads w8 1 (some ⟨g, 0, none⟩) ls.length (wordsV ls) := by
            have := HR6.out.keep k8 (fun ad ha => by cases ha; exact hgw)
            rw [HLS.out]
            exact this
          refine ⟨some ⟨g, 0, none⟩, cap, ?_, hr8, HK6.out.trans k8 (fun y hy hl => by simp only [List.mem_cons, List.not_mem_nil, or_false] at hy; omega)⟩
          unfold cndV
          rw [HLS.out]
          rfl
        · have HR : Hid (res = none) := by show _ = _; rw [HRS.out, if_pos hcc]
          have t0 : ((cr : Int) != (hd.check : Int)) = true := bne_iff_ne.2 (by omega)
          clear hcc HRS
          rw [t0]
          go_upto_region 13 with fail
          go_wp2_with (refine stop_at 76 rfl ?_)
          constructor
          refine wpList_runsS rfl (v := .agg zeroCnd) (w' := w6) (by
            simp only [execOp, Sem.run_bind, List.map_toArray, List.map_nil]
            change Result.andThen ((Instr.build 106 #[]).run Try.prog w6) _ = _
            rw [run_build_c90]
            rfl) ?_
          go_wp2_with (refine wpList_store_all rfl 106 (.tmp 4) (.tmp 76) rfl rfl rfl (t := 106) (cs := zeroCnd) (vs := zeroCnd.toList) agg_c9.2 ?_ (by simp [Value.oneCell']) rfl ?_; exact HB6.out; intro w6 e6 k6)
          refine bodyPost_ret (results_blk_tmp rfl _ rfl rfl e6 agg_c9) rfl ?_
          rw [HR.out]
          exact ⟨rfl, (HK6.out).trans k6 (fun y hy hl => by simp only [List.mem_cons, List.not_mem_nil, or_false] at hy; omega)⟩
end Go.Proofs.Yteanpgkonhdbpaa

namespace Go.Proofs.Yteanpgkonhdbpaa
open Go.RowKit

theorem slice_c9 : SliceOf Try.prog 101 106 4 40 := ⟨Try.underlying101, by kernel_rfl, by decide⟩
def candsD (x y : Option Cnd) : List Cnd :=
  match x, y with
  | none, none => []
  | some a, none => [a]
  | none, some b => [b]
  | some a, some b => if a.seq < b.seq then [b, a] else [a, b]
def RetCs (w : World) (L : List Cnd) (e : Ending) (w' : World) : Prop :=
  ∃ (A : Option Addr) (c : Nat) (ps : List CndP), ps.map CndP.c = L ∧ e = .returned (.slice A L.length c) ∧ Reads w' 4 A L.length (cndRow ps) ∧ (∀ x ∈ ps, Reads w' 1 x.a x.c.words.length (wordsV x.c.words)) ∧ Keep [] w w'
theorem c9_both {w w' : World} {r : Option Cnd} {e : Ending} (h : RetC9 w r e w') : ∃ (cs : List Value) (okb : Bool), e = .returned (.tuple #[.agg cs.toArray, .bool okb]) ∧ cs.length = 4 ∧ (∀ x ∈ cs, x.oneCell' = true) ∧ Keep [] w w' ∧
    ((okb = false ∧ r = none ∧ cs = zeroCnd.toList) ∨ (okb = true ∧ ∃ c A cap, r = some c ∧ cs = cndV c A cap ∧ Reads w' 1 A c.words.length (wordsV c.words))) := by
  cases r with
  | none => exact ⟨zeroCnd.toList, false, h.1, rfl, by simp [Value.oneCell'], h.2, .inl ⟨rfl, rfl, rfl⟩⟩
  | some c =>
    obtain ⟨A, cap, e1, h2, k⟩ := h
    exact ⟨cndV c A cap, true, e1, rfl, by simp [cndV, Value.oneCell'], k, .inr ⟨rfl, c, A, cap, rfl, rfl, h2⟩⟩
theorem off_lt {w : World} {A : Option Addr} {n : Nat} {cs : List Value} (h : Reads w 1 A n cs) (hn : 0 < n) {F : List Nat} (hF : ∀ y ∈ F, w.heap.size ≤ y) : Off F A := fun ad ha hm => by
  obtain ⟨b, o, e, hb, _⟩ := h.addr hn
  rw [e] at ha
  cases ha
  have := hF _ hm
  dsimp only at this
  omega
theorem reads_keepF {w w' : World} {A : Option Addr} {n : Nat} {cs : List Value} (h : Reads w 1 A n cs) {F : List Nat} (k : Keep F w w') (hF : ∀ y ∈ F, w.heap.size ≤ y) : Reads w' 1 A n cs := by
  by_cases hn : 0 < n
  · exact h.keep k (off_lt h hn hF)
  · exact ⟨h.len, fun h0 => absurd h0 hn⟩
set_option maxRecDepth 100000 in
set_option maxHeartbeats 4000000 in
theorem rcands_gen (q n c half : Nat) (x y : Option Cnd) (w : World) (hn : n / 2 = half) (hn2 : n ≤ 64) (h3 : 3 ≤ half) (hc : n ≤ c)
    (h0 : ∀ W, Keep [] w W → Calls Try.prog 93 #[.int .i64 0, .slice (some ⟨q, 0, none⟩) half c] W (RetC9 W x))
    (h1 : ∀ W, Keep [] w W → Calls Try.prog 93 #[.int .i64 1, .slice (some ⟨q, half, none⟩) half (c - half)] W (RetC9 W y)) :
    Calls Try.prog 53 #[.slice (some ⟨q, 0, none⟩) n c] w (RetCs w (candsD x y)) := by
  have H0 := Lib.hid (h0 w (Keep.refl _ _))
  have H1 := Lib.hid h1
  have hw : (n : Int).tdiv 2 = (half : Int) := by rw [Int.tdiv_eq_ediv_of_nonneg (by omega)]; omega
  have hq : (n : Int) / 2 = (half : Int) := by omega
  have hwm : IntKind.i64.wrap (2 * (half : Int)) = ((2 * half : Nat) : Int) := by rw [show 2 * (half : Int) = ((2 * half : Nat) : Int) by omega]; exact IntWalk.i64_in _ (by omega)
  have y0 : (half : Int) ≤ (c : Int) := by omega
  have y1 : (half : Int) ≤ ((2 * half : Nat) : Int) := by omega
  have y2 : ((2 * half : Nat) : Int) ≤ (c : Int) := by omega
  have y3 : (0 : Int) ≤ (half : Int) := by omega
  have y4 : ((2 * half : Nat) - half) = half := by omega
  have y5 : (c = half) = False := eq_false (by omega)
  clear h0 h1 hn
  go_enter Try.func53, Try.ntmps53
  go_upto_region 2 with fail
  go_wp2_with fail
  refine H0.out.mono ?_
  intro e w1 hr
  obtain ⟨cs, okb, rfl, hcl, hc1, k1, hcase⟩ := c9_both hr
  clear hr H0
  go_wp2_with (refine stop_store 106 (.tmp 4) (.tmp 17) rfl ?_)
  constructor
  refine wpList_store_all rfl 106 (.tmp 4) (.tmp 17) rfl rfl rfl (t := 106) (cs := zeroCnd) (vs := cs) (by rw [hcl]; exact agg_c9.2) (Blk.new _ _ _) hc1 (by rw [hcl]; rfl) ?_
  intro w2 d2 kk2
  have K12 : Keep [] w1 w2 := ((Keep.refl [] w1).alloc _).trans kk2 (fun y hy hl => by simp only [List.mem_cons, List.not_mem_nil, or_false] at hy; omega)
  have HD2 := Lib.hid d2
  have HK2 := Lib.hid (k1.then K12)
  have HC2 : Hid ((okb = false ∧ x = none ∧ cs = zeroCnd.toList) ∨ (okb = true ∧ ∃ c A cap, x = some c ∧ cs = cndV c A cap ∧ Reads w2 1 A c.words.length (wordsV c.words))) := by
    rcases hcase with h | ⟨h, c, A, cap, h2, h3, h4⟩
    · exact .inl h
    · exact .inr ⟨h, c, A, cap, h2, h3, h4.keep0 K12⟩
  clear d2 kk2 K12 k1 hcase
  generalize w1.heap.size = B4 at *
  go_upto_region 3 with fail
  go_wp2_with fail
  refine (H1.out w2 HK2.out).mono ?_
  intro e w3 hr
  obtain ⟨ds, okc, rfl, hdl, hd1, k3, hcase⟩ := c9_both hr
  clear hr H1
  go_wp2_with (refine stop_store 106 (.tmp 6) (.tmp 26) rfl ?_)
  constructor
  refine wpList_store_all rfl 106 (.tmp 6) (.tmp 26) rfl rfl rfl (t := 106) (cs := zeroCnd) (vs := ds) (by rw [hdl]; exact agg_c9.2) (Blk.new _ _ _) hd1 (by rw [hdl]; rfl) ?_
  intro w4 d4 kk4
  have K34 : Keep [] w3 w4 := ((Keep.refl [] w3).alloc _).trans kk4 (fun y hy hl => by simp only [List.mem_cons, List.not_mem_nil, or_false] at hy; omega)
  have HD4 := Lib.hid d4
  have HB4 := Lib.hid (HD2.out.keep0 (k3.then K34))
  have HK4 := Lib.hid (HK2.out.then (k3.then K34))
  have HC4 : Hid ((okb = false ∧ x = none ∧ cs = zeroCnd.toList) ∨ (okb = true ∧ ∃ c A cap, x = some c ∧ cs = cndV c A cap ∧ Reads w4 1 A c.words.length (wordsV c.words))) := by
    rcases HC2.out with h | ⟨h, c, A, cap, h2, h3, h4⟩
    · exact .inl h
    · exact .inr ⟨h, c, A, cap, h2, h3, h4.keep0 (k3.then K34)⟩
  have HE4 : Hid ((okc = false ∧ y = none ∧ ds = zeroCnd.toList) ∨ (okc = true ∧ ∃ c A cap, y = some c ∧ ds = cndV c A cap ∧ Reads w4 1 A c.words.length (wordsV c.words))) := by
    rcases hcase with h | ⟨h, c, A, cap, h2, h3, h4⟩
    · exact .inl h
    · exact .inr ⟨h, c, A, cap, h2, h3, h4.keep0 K34⟩
  clear d4 kk4 K34 k3 hcase HC2 HD2 HK2 y0 y1 y2 y3 y4 y5 hwm hw hq
  generalize w3.heap.size = B6 at *
  have hrow := World.ownsRow_nil w4 w4.heap.size 106 4
  go_upto_region 5 with fail
  rcases HC4.out with ⟨rfl, rfl, rfl⟩ | ⟨rfl, a, Aa, pa, rfl, rfl, hra⟩
  · rcases HE4.out with ⟨rfl, rfl, rfl⟩ | ⟨rfl, b, Ab, pb, rfl, rfl, hrb⟩
    · clear HC4 HE4
      go_wp2_with fail
      go_ret
      exact ⟨none, 0, [], rfl, rfl, ⟨rfl, fun h => absurd h (by decide)⟩, (fun x hx => by cases hx), HK4.out⟩
    · have HRB := Lib.hid hrb
      clear HC4 HE4 hrb
      go_upto_region 8 with fail
      go_wp2_with (refine stop_at 46 rfl ?_)
      constructor
      refine wpList_load_agg rfl 106 (.tmp 6) rfl rfl (cs := cndV b Ab pb) agg_c9 HD4.out.cellsAt ?_
      refine wpList_runsS rfl (exec_slice_oneS slice_c9 (cs := cndV b Ab pb) rfl (by decide) rfl _) ?_
      refine wpList_append_one rfl (.tmp 45) (.tmp 47) 101 rfl slice_c9 hrow rfl rfl (us := cndV b Ab pb) rfl (by simp [cndV, Value.oneCell']) (by omega) (by omega) (by unfold maxLen; omega) ?_
      intro v5 w5 hown5 hk5 hat5
      have k45 : Keep [] w4 w5 := hk5
      obtain ⟨A5, c5, rfl⟩ := own_shape hown5
      have HR5 := Lib.hid (Reads.of_own hown5)
      have HW5 := Lib.hid (HRB.out.keep0 k45)
      have HK5 := Lib.hid (HK4.out.then k45)
      clear hown5 hk5 hat5 k45 hrow
      go_wp2_with fail
      go_ret
      refine ⟨A5, c5, [⟨b, Ab, pb⟩], rfl, rfl, HR5.out, fun z hz => ?_, HK5.out⟩
      simp at hz
      subst hz
      exact HW5.out
  · have HRA := Lib.hid hra
    clear hra
    rcases HE4.out with ⟨rfl, rfl, rfl⟩ | ⟨rfl, b, Ab, pb, rfl, rfl, hrb⟩
    · clear HC4 HE4
      go_upto_region 6 with fail
      go_wp2_with (refine stop_at 41 rfl ?_)
      constructor
      refine wpList_load_agg rfl 106 (.tmp 4) rfl rfl (cs := cndV a Aa pa) agg_c9 HB4.out.cellsAt ?_
      refine wpList_runsS rfl (exec_slice_oneS slice_c9 (cs := cndV a Aa pa) rfl (by decide) rfl _) ?_
      refine wpList_append_one rfl (.tmp 40) (.tmp 42) 101 rfl slice_c9 hrow rfl rfl (us := cndV a Aa pa) rfl (by simp [cndV, Value.oneCell']) (by omega) (by omega) (by unfold maxLen; omega) ?_
      intro v5 w5 hown5 hk5 hat5
      have k45 : Keep [] w4 w5 := hk5
      obtain ⟨A5, c5, rfl⟩ := own_shape hown5
      have HR5 := Lib.hid (Reads.of_own hown5)
      have HW5 := Lib.hid (HRA.out.keep0 k45)
      have HK5 := Lib.hid (HK4.out.then k45)
      clear hown5 hk5 hat5 k45 hrow
      go_wp2_with fail
      go_ret
      refine ⟨A5, c5, [⟨a, Aa, pa⟩], rfl, rfl, HR5.out, fun z hz => ?_, HK5.out⟩
      simp at hz
      subst hz
      exact HW5.out
    · have HRB := Lib.hid hrb
      clear HC4 HE4 hrb
      have g4 : w4.cell? ⟨B4, 1, none⟩ = some (.int .u32 (a.seq : Int)) := HB4.out.cell 1
      have g6 : w4.cell? ⟨B6, 1, none⟩ = some (.int .u32 (b.seq : Int)) := HD4.out.cell 1
      by_cases hab : a.seq < b.seq
      · have p0 : decide ((b.seq : Int) ≤ (a.seq : Int)) = false := decide_eq_false (by omega)
        have p1 : (b.seq ≤ a.seq) = False := eq_false (by omega)
        have p2 : decide ((a.seq : Int) < (b.seq : Int)) = true := decide_eq_true (by omega)
        have p3 : (a.seq < b.seq) = True := eq_true (by omega)
        have HL : Hid (candsD (some a) (some b) = [b, a]) := by show (if a.seq < b.seq then [b, a] else [a, b]) = _; rw [if_pos hab]
        clear hab
        go_upto_region 8 with fail
        go_wp2_with (refine stop_at 46 rfl ?_)
        constructor
        refine wpList_load_agg rfl 106 (.tmp 6) rfl rfl (cs := cndV b Ab pb) agg_c9 HD4.out.cellsAt ?_
        refine wpList_runsS rfl (exec_slice_oneS slice_c9 (cs := cndV b Ab pb) rfl (by decide) rfl _) ?_
        refine wpList_append_one rfl (.tmp 45) (.tmp 47) 101 rfl slice_c9 hrow rfl rfl (us := cndV b Ab pb) rfl (by simp [cndV, Value.oneCell']) (by omega) (by omega) (by unfold maxLen; omega) ?_
        intro v5 w5 hown5 hk5 hat5
        have k45 : Keep [] w4 w5 := hk5
        obtain ⟨A5, c5, rfl⟩ := own_shape hown5
        have HS5 := Lib.hid (HB4.out.keep0 k45)
        have HT5 := Lib.hid (HD4.out.keep0 k45)
        have HW5 := Lib.hid (HRB.out.keep0 k45)
        have HX5 := Lib.hid (HRA.out.keep0 k45)
        have HK5 := Lib.hid (HK4.out.then k45)
        have hlo5 := hown5.lt
        have hz5 := k45.size
        have g4 : w5.cell? ⟨B4, 1, none⟩ = some (.int .u32 (a.seq : Int)) := HS5.out.cell 1
        have g6 : w5.cell? ⟨B6, 1, none⟩ = some (.int .u32 (b.seq : Int)) := HT5.out.cell 1
        clear hk5 hat5 k45 hrow
        go_upto_region 10 with fail
        go_wp2_with (refine stop_at 61 rfl ?_)
        constructor
        refine wpList_load_agg rfl 106 (.tmp 4) rfl rfl (cs := cndV a Aa pa) agg_c9 HS5.out.cellsAt ?_
        refine wpList_runsS rfl (exec_slice_oneS slice_c9 (cs := cndV a Aa pa) rfl (by decide) rfl _) ?_
        refine wpList_append_one rfl (.tmp 60) (.tmp 62) 101 rfl slice_c9 hown5 rfl rfl (us := cndV a Aa pa) rfl (by simp [cndV, Value.oneCell']) (by omega) (by omega) (by unfold maxLen; omega) ?_
        intro v6 w6 hown6 hk6 hat6
        have hF : ∀ y ∈ (Value.slice A5 (0 + 1) c5).ownBlock.toList, w4.heap.size ≤ y ∧ y < w5.heap.size := fun y hy => hlo5 y (by simpa using hy)
        have k56 : Keep (Value.slice A5 (0 + 1) c5).ownBlock.toList w5 w6 := hk6
        have HW6 : Hid (Reads w6 1 Ab b.words.length (wordsV b.words)) := by
          have k46 := k56
          refine ?_
          by_cases hn0 : 0 < b.words.length
          · refine HW5.out.keep k56 ?_
            have h4 := off_lt HRB.out hn0 (F := (Value.slice A5 (0 + 1) c5).ownBlock.toList) (fun y hy => (hF y hy).1)
            exact h4
          · exact ⟨HW5.out.len, fun h => absurd h hn0⟩
        have HX6 : Hid (Reads w6 1 Aa a.words.length (wordsV a.words)) := by
          by_cases hn0 : 0 < a.words.length
          · refine HX5.out.keep k56 ?_
            have h4 := off_lt HRA.out hn0 (F := (Value.slice A5 (0 + 1) c5).ownBlock.toList) (fun y hy => (hF y hy).1)
            exact h4
          · exact ⟨HX5.out.len, fun h => absurd h hn0⟩
        obtain ⟨A6, c6, rfl⟩ := own_shape hown6
        have HR6 := Lib.hid (Reads.of_own hown6)
        have HK6 : Hid (Keep [] w w6) := HK5.out.trans k56 (fun y hy hl => by have := hF y hy; have := HK4.out.size; omega)
        clear hown6 hk6 hat6 hown5 k56 hF hlo5
        go_wp2_with fail
        go_ret
        rw [HL.out]
        refine ⟨A6, c6, [⟨b, Ab, pb⟩, ⟨a, Aa, pa⟩], rfl, rfl, HR6.out, fun z hz => ?_, HK6.out⟩
        simp only [List.mem_cons, List.not_mem_nil, or_false] at hz
        rcases hz with rfl | rfl
        · exact HW6.out
        · exact HX6.out
      · have p0 : decide ((b.seq : Int) ≤ (a.seq : Int)) = true := decide_eq_true (by omega)
        have p1 : (b.seq ≤ a.seq) = True := eq_true (by omega)
        have p2 : decide ((a.seq : Int) < (b.seq : Int)) = false := decide_eq_false (by omega)
        have p3 : (a.seq < b.seq) = False := eq_false (by omega)
        have HL : Hid (candsD (some a) (some b) = [a, b]) := by show (if a.seq < b.seq then [b, a] else [a, b]) = _; rw [if_neg hab]
        clear hab
        go_upto_region 6 with fail
        go_wp2_with (refine stop_at 41 rfl ?_)
        constructor
        refine wpList_load_agg rfl 106 (.tmp 4) rfl rfl (cs := cndV a Aa pa) agg_c9 HB4.out.cellsAt ?_
        refine wpList_runsS rfl (exec_slice_oneS slice_c9 (cs := cndV a Aa pa) rfl (by decide) rfl _) ?_
        refine wpList_append_one rfl (.tmp 40) (.tmp 42) 101 rfl slice_c9 hrow rfl rfl (us := cndV a Aa pa) rfl (by simp [cndV, Value.oneCell']) (by omega) (by omega) (by unfold maxLen; omega) ?_
        intro v5 w5 hown5 hk5 hat5
        have k45 : Keep [] w4 w5 := hk5
        obtain ⟨A5, c5, rfl⟩ := own_shape hown5
        have HS5 := Lib.hid (HD4.out.keep0 k45)
        have HT5 := Lib.hid (HB4.out.keep0 k45)
        have HW5 := Lib.hid (HRA.out.keep0 k45)
        have HX5 := Lib.hid (HRB.out.keep0 k45)
        have HK5 := Lib.hid (HK4.out.then k45)
        have hlo5 := hown5.lt
        have hz5 := k45.size
        clear hk5 hat5 k45 hrow
        go_upto_region 8 with fail
        go_wp2_with (refine stop_at 46 rfl ?_)
        constructor
        refine wpList_load_agg rfl 106 (.tmp 6) rfl rfl (cs := cndV b Ab pb) agg_c9 HS5.out.cellsAt ?_
        refine wpList_runsS rfl (exec_slice_oneS slice_c9 (cs := cndV b Ab pb) rfl (by decide) rfl _) ?_
        refine wpList_append_one rfl (.tmp 45) (.tmp 47) 101 rfl slice_c9 hown5 rfl rfl (us := cndV b Ab pb) rfl (by simp [cndV, Value.oneCell']) (by omega) (by omega) (by unfold maxLen; omega) ?_
        intro v6 w6 hown6 hk6 hat6
        have hF : ∀ y ∈ (Value.slice A5 (0 + 1) c5).ownBlock.toList, w4.heap.size ≤ y ∧ y < w5.heap.size := fun y hy => hlo5 y (by simpa using hy)
        have k56 : Keep (Value.slice A5 (0 + 1) c5).ownBlock.toList w5 w6 := hk6
        have HW6 : Hid (Reads w6 1 Aa a.words.length (wordsV a.words)) := by
          have k46 := k56
          refine ?_
          by_cases hn0 : 0 < a.words.length
          · refine HW5.out.keep k56 ?_
            have h4 := off_lt HRA.out hn0 (F := (Value.slice A5 (0 + 1) c5).ownBlock.toList) (fun y hy => (hF y hy).1)
            exact h4
          · exact ⟨HW5.out.len, fun h => absurd h hn0⟩
        have HX6 : Hid (Reads w6 1 Ab b.words.length (wordsV b.words)) := by
          by_cases hn0 : 0 < b.words.length
          · refine HX5.out.keep k56 ?_
            have h4 := off_lt HRB.out hn0 (F := (Value.slice A5 (0 + 1) c5).ownBlock.toList) (fun y hy => (hF y hy).1)
            exact h4
          · exact ⟨HX5.out.len, fun h => absurd h hn0⟩
        obtain ⟨A6, c6, rfl⟩ := own_shape hown6
        have HR6 := Lib.hid (Reads.of_own hown6)
        have HK6 : Hid (Keep [] w w6) := HK5.out.trans k56 (fun y hy hl => by have := hF y hy; have := HK4.out.size; omega)
        have g4 : w6.cell? ⟨B4, 1, none⟩ = some (.int .u32 (a.seq : Int)) := (HT5.out.keep k56 (fun hm => by have := hF B4 hm; have := HB4.out.lt; omega)).cell 1
        have g6 : w6.cell? ⟨B6, 1, none⟩ = some (.int .u32 (b.seq : Int)) := (HS5.out.keep k56 (fun hm => by have := hF B6 hm; have := HD4.out.lt; omega)).cell 1
        clear hown6 hk6 hat6 hown5 k56 hF hlo5
        go_wp2_with fail
        go_ret
        rw [HL.out]
        refine ⟨A6, c6, [⟨a, Aa, pa⟩, ⟨b, Ab, pb⟩], rfl, rfl, HR6.out, fun z hz => ?_, HK6.out⟩
        simp only [List.mem_cons, List.not_mem_nil, or_false] at hz
        rcases hz with rfl | rfl
        · exact HW6.out
        · exact HX6.out
end Go.Proofs.Yteanpgkonhdbpaa
