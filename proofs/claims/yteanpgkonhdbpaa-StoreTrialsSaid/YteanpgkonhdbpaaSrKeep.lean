/- StoreKeeps, walked: what runs isn't lost. No condition. -/
import Derived.Test.YteanpgkonhdbpaaSrU
import Derived.Test.YteanpgkonhdbpaaSrKeepP
import Derived.Deep.DeepCutAuto
import Derived.Deep.CutBlock
namespace Go.Proofs.Yteanpgkonhdbpaa
open Go.RowKit

set_option maxRecDepth 100000 in
set_option maxHeartbeats 2000000 in
theorem has_yes (A : Option Addr) (n c : Nat) (ps : List CndP) (B : Option Addr) (m e : Nat) (img : List Nat) (w : World) (hn : ps.length = n) (hn2 : n ≤ 2) (hcc : 0 < n → ∃ b o, A = some ⟨b, o, none⟩ ∧ b < w.heap.size ∧ ∀ k, (hk : k < ps.length) → CellsAt w b (o + k * 4) (cpCells ps[k]))
    (hws : ∀ x ∈ ps, Reads w 1 x.a x.c.words.length (wordsV x.c.words)) (hm : img.length = m) (hB : Reads w 1 B m (wordsV img)) (hm2 : m ≤ 100000) (hall : ∀ p ∈ ps, p.c.bank = 0 → p.c = ⟨0, 1, false, img⟩) (hex : ∃ p ∈ ps, p.c.bank = 0) :
    Calls Try.prog 56 #[.slice A n c, .slice B m e] w fun e w' => e = .returned (.bool true) ∧ Keep [] w w' := by
  have HRW : Hid (∀ W p q, Keep [] w W → Reads w 1 p img.length (wordsV img) → Calls Try.prog 55 #[.slice p m q, .slice B m e] W fun e w' => e = .returned (.bool true) ∧ Keep [] W w') := fun W p q k h => by
    have h2 := srow_any p B q e img img W (h.keep0 k) (by rw [hm]; exact hB.keep0 k) (by omega) (by omega)
    rw [hm] at h2
    refine h2.mono ?_
    rintro e w' ⟨rfl, k2⟩
    exact ⟨by simp, k2⟩
  have HWS := Lib.hid hws
  have HALL := Lib.hid hall
  have HEX := Lib.hid hex
  clear hws hall hex hB
  go_enter Try.func56, Try.ntmps56
  go_wp2
  go_loopw [5] (fun i wr => ∃ k : Nat, k ≤ n ∧ i = .int .i64 k ∧ (∀ p ∈ ps.take k, p.c.bank ≠ 0) ∧ Keep [] w wr) (fun i _ => n - (intOf i).toNat)
  case atStart => exact ⟨0, Nat.zero_le _, rfl, (fun m hm => by simp at hm), Keep.refl _ _⟩
  case round =>
    obtain ⟨k, hk9, rfl, hany, hkeep⟩ := hrel
    by_cases hlk : k < n
    · have q1 : ((k : Int) < (n : Int)) := by omega
      have k0 : (0 : Int) ≤ (k : Int) := by omega
      obtain ⟨b, o, hA, hb, hc⟩ := hcc (by omega)
      have hlk' : k < ps.length := by omega
      have ci := hc k hlk'
      have hst : Hid (ps[k].c.bank ≠ 0 → ∀ p ∈ ps.take (k + 1), p.c.bank ≠ 0) := fun e m hm => by
        rw [List.take_succ_eq_append_getElem hlk'] at hm
        rcases List.mem_append.1 hm with hm | hm
        · exact hany m hm
        · simp at hm; rw [hm]; exact e
      have hmem : ps[k] ∈ ps := List.getElem_mem hlk'
      have hwk := HWS.out _ hmem
      have hak := HALL.out _ hmem
      have g0 := ci 0 _ rfl
      have g1 := ci 1 _ rfl
      have g2 := ci 2 _ rfl
      have g3 := ci 3 _ rfl
      clear hc ci hany hmem hcc
      generalize ps[k] = p at *
      obtain ⟨⟨bk, sq, tr, wd⟩, pa, pp⟩ := p
      dsimp only at g0 g1 g2 g3 hst hwk hak
      have c0 := (hkeep.cell (p := ⟨b, o + k * 4 + 0, none⟩) hb (by simp)).trans g0
      have HKp := Lib.hid hkeep
      rw [hA]
      by_cases hz : bk = 0
      · subst hz
        have he := hak rfl
        simp only [Cnd.mk.injEq, true_and] at he
        obtain ⟨rfl, rfl, rfl⟩ := he
        have c1 : wr.cell? ⟨b, o + k * 4 + 1, none⟩ = some (.int .u32 1) := (hkeep.cell (p := ⟨b, o + k * 4 + 1, none⟩) hb (by simp)).trans g1
        have c2 : wr.cell? ⟨b, o + k * 4 + 2, none⟩ = some (.bool false) := (hkeep.cell (p := ⟨b, o + k * 4 + 2, none⟩) hb (by simp)).trans g2
        have c3 : wr.cell? ⟨b, o + k * 4 + 3, none⟩ = some (.slice pa m pp) := by rw [← hm]; exact (hkeep.cell (p := ⟨b, o + k * 4 + 3, none⟩) hb (by simp)).trans g3
        have c0' : wr.cell? ⟨b, o + k * 4, none⟩ = some (.int .i64 0) := c0
        have hrw := HRW.out wr pa pp hkeep hwk
        clear g0 g1 g2 g3 hkeep hst hak hwk HRW c0
        go_wp2_with (refine hrw.mono ?_; rintro e w2 ⟨rfl, k2⟩)
        go_ret
        exact ⟨rfl, HKp.out.then k2⟩
      · have c0' : wr.cell? ⟨b, o + k * 4, none⟩ = some (.int .i64 (bk : Int)) := c0
        have z1 : ((bk : Int) == 0) = false := beq_eq_false_iff_ne.2 (by omega)
        have z2 : (bk = 0) = False := eq_false hz
        have HR := Lib.hid (hst.out hz)
        clear g0 g1 g2 g3 hkeep hst hak hwk HRW c0
        go_wp2
        go_roundw
        case rel => exact ⟨k + 1, by omega, by go_num, HR.out, HKp.out⟩
        case measure => simp [intOf] <;> omega
    · exfalso
      obtain ⟨p, hp, h0⟩ := HEX.out
      exact hany p (by rw [List.take_of_length_le (by omega)]; exact hp) h0

/-- The law's store, in the law's loop. -/
structure LawS (bs : Nat) (w wr : World) (g b1 b2 : Nat) (v : StW) (s : StS) : Prop where
  at_ : SrAt wr v s
  ok : SrOk s
  g : v.g = g ∧ v.b1 = b1 ∧ v.b2 = b2
  lo : ∀ y ∈ v.all, bs ≤ y
  sz : w.heap.size ≤ bs
  keep : Keep [] w wr
theorem LawS.keep0 {bs : Nat} {w wr w' : World} {g b1 b2 : Nat} {v : StW} {s : StS} (h : LawS bs w wr g b1 b2 v s) (k : Keep [] wr w') : LawS bs w w' g b1 b2 v s := ⟨h.at_.keep0 k, h.ok, h.g, h.lo, h.sz, h.keep.then k⟩
theorem LawS.ret {bs : Nat} {w wr w' : World} {g b1 b2 : Nat} {v : StW} {s s' : StS} (h : LawS bs w wr g b1 b2 v s) (ho : SrOk s') (ha : SrAt w' v s') (k : Keep v.all wr w') : LawS bs w w' g b1 b2 v s' :=
  ⟨ha, ho, h.g, h.lo, h.sz, h.keep.trans k (fun y hy hl => by have := h.lo y hy; have := h.sz; omega)⟩
theorem LawS.do_ {bs : Nat} {w wr w' : World} {g b1 b2 : Nat} {v v' : StW} {s s' : StS} (h : LawS bs w wr g b1 b2 v s) (ho : SrOk s') (hg : v'.g = v.g ∧ v'.b1 = v.b1 ∧ v'.b2 = v.b2) (hall : ∀ y ∈ v'.all, y ∈ v.all ∨ wr.heap.size ≤ y) (ha : SrAt w' v' s') (k : Keep v.all wr w') : LawS bs w w' g b1 b2 v' s' :=
  ⟨ha, ho, ⟨hg.1.trans h.g.1, hg.2.1.trans h.g.2.1, hg.2.2.trans h.g.2.2⟩, fun y hy => by
    rcases hall y hy with h1 | h1
    · exact h.lo y h1
    · have h2 := h.at_.lt v.gs (by simp [StW.all])
      have h3 := h.lo v.gs (by simp [StW.all])
      omega, h.sz, h.keep.trans k (fun y hy hl => by have := h.lo y hy; have := h.sz; omega)⟩
/-- The device's own calls. -/
theorem LawS.on_any {bs : Nat} {w wr : World} {g b1 b2 : Nat} {v : StW} {s : StS} (h : LawS bs w wr g b1 b2 v s) : Calls Try.prog 21 #[.pointer (some ⟨g, 0, none⟩)] wr fun e w' => e = .returned (.bool s.d.on) ∧ wr = w' := by
  have := fon_any v.g v.b1 v.b2 s.d wr h.at_.dev
  rw [h.g.1] at this
  exact this
theorem LawS.power_any {bs : Nat} {w wr : World} {g b1 b2 : Nat} {v : StW} {s : StS} (h : LawS bs w wr g b1 b2 v s) (b : Bool) : Calls Try.prog 15 #[.pointer (some ⟨g, 0, none⟩), .bool b] wr fun e w' => e = .returned (.tuple #[]) ∧ LawS bs w w' g b1 b2 v { s with d := powerS s.d b } := by
  have h1 := fpower_any v.g v.b1 v.b2 s.d b wr h.at_.dev
  rw [h.g.1] at h1
  refine h1.mono ?_
  rintro e w' ⟨rfl, hd, k⟩
  obtain ⟨n1, n2, n3, n4, n5, n6, n7, n8, n9, n10, n11⟩ := h.at_.nes
  have hgv := h.g.1
  rw [← hgv] at hd k
  refine ⟨rfl, ⟨h.at_.st.keep k (by simp [n3]), hd, Blk.keep h.at_.bk0 k (by simp [n6]), Blk.keep h.at_.bk1 k (by simp [n9]), h.at_.ne⟩, ?_, h.g, h.lo, h.sz, h.keep.trans k (fun y hy hl => ?_)⟩
  · exact h.ok.dev ⟨h.ok.ok.ns1, h.ok.ok.ns2, h.ok.ok.nw1, h.ok.ok.nw2, h.ok.ok.lim2, h.ok.ok.blen, h.ok.ok.wlen, h.ok.ok.bit, h.ok.ok.wear, h.ok.ok.seed2, h.ok.ok.left2⟩ ⟨rfl, rfl, rfl⟩
  · simp only [List.mem_cons, List.not_mem_nil, or_false] at hy
    subst hy
    have := h.lo v.g (by simp [StW.all])
    have := h.sz
    omega
section
variable {bs : Nat} {w wr : World} {g b1 b2 : Nat} {v : StW} {s : StS}
theorem LawS.begin_any (h : LawS bs w wr g b1 b2 v s) : Calls Try.prog 48 #[.pointer (some ⟨v.gs, 0, none⟩)] wr fun e w' => e = .returned (.int .i64 (beginSr s).2) ∧ LawS bs w w' g b1 b2 v (beginSr s).1 := by
  refine (sbegin_any v s wr h.at_ h.ok).mono ?_
  rintro e w' ⟨rfl, ha, k⟩
  exact ⟨rfl, h.ret (beginSr_ok h.ok) ha k⟩
theorem LawS.commit_any (h : LawS bs w wr g b1 b2 v s) : Calls Try.prog 59 #[.pointer (some ⟨v.gs, 0, none⟩)] wr fun e w' => e = .returned (.int .i64 (commitSr s).2) ∧ LawS bs w w' g b1 b2 v (commitSr s).1 := by
  refine (scommit_any v s wr h.at_ h.ok).mono ?_
  rintro e w' ⟨rfl, ha, k⟩
  exact ⟨rfl, h.ret (commitSr_ok h.ok) ha k⟩
theorem LawS.confirm_any (h : LawS bs w wr g b1 b2 v s) : Calls Try.prog 47 #[.pointer (some ⟨v.gs, 0, none⟩)] wr fun e w' => e = .returned (.int .i64 (confirmSr s).2) ∧ LawS bs w w' g b1 b2 v (confirmSr s).1 := by
  refine (sconfirm_any v s wr h.at_ h.ok).mono ?_
  rintro e w' ⟨rfl, ha, k⟩
  exact ⟨rfl, h.ret (confirmSr_ok h.ok) ha k⟩
theorem LawS.start_any (h : LawS bs w wr g b1 b2 v s) (i : Int) : Calls Try.prog 46 #[.pointer (some ⟨v.gs, 0, none⟩), .int .i64 i] wr fun e w' => e = .returned (.int .i64 (startSr s i).2) ∧ LawS bs w w' g b1 b2 v (startSr s i).1 := by
  refine (sstart_any v s wr i h.at_ h.ok).mono ?_
  rintro e w' ⟨rfl, ha, k⟩
  exact ⟨rfl, h.ret (startSr_ok h.ok i) ha k⟩
theorem LawS.confirmed_any (h : LawS bs w wr g b1 b2 v s) : Calls Try.prog 44 #[.pointer (some ⟨v.gs, 0, none⟩)] wr fun e w' => e = .returned (.bool (confS s)) ∧ LawS bs w w' g b1 b2 v s := by
  refine (sconfirmed_any v s wr h.at_ h.ok).mono ?_
  rintro e w' ⟨rfl, k⟩
  exact ⟨rfl, h.keep0 k⟩
theorem LawS.off (h : LawS bs w wr g b1 b2 v s) {A : Option Addr} {n : Nat} {l : List Nat} (hr : Reads w 1 A n (wordsV l)) : 0 < n → Off v.all A := fun h0 ad ha hm => by
  obtain ⟨b, o, e, hb, _⟩ := hr.addr h0
  rw [e] at ha
  cases ha
  have h1 := h.lo _ hm
  have h2 := h.sz
  dsimp only at h1
  omega
theorem LawS.put_any (h : LawS bs w wr g b1 b2 v s) {A : Option Addr} {l : List Nat} (c : Nat) (hI : WordsAt w A l) (hn : l.length ≤ 1000000) : Calls Try.prog 57 #[.pointer (some ⟨v.gs, 0, none⟩), .slice A l.length c] wr fun e w' => e = .returned (.int .i64 (putSr s l).2) ∧ LawS bs w w' g b1 b2 v (putSr s l).1 := by
  refine (sput_any v s wr A l.length c l h.at_ h.ok rfl hI.lt (hI.rows.keep0 h.keep) (h.off hI.rows) hn).mono ?_
  rintro e w' ⟨rfl, ha, k⟩
  exact ⟨rfl, h.ret (putSr_ok h.ok hI.lt) ha k⟩
theorem LawS.staged_any (h : LawS bs w wr g b1 b2 v s) : Calls Try.prog 58 #[.pointer (some ⟨v.gs, 0, none⟩)] wr fun e w' => e = .returned (stagedV s) ∧ LawS bs w w' g b1 b2 v s := by
  refine (sstaged_any v s wr h.at_ h.ok).mono ?_
  rintro e w' ⟨rfl, k⟩
  exact ⟨rfl, h.keep0 k⟩
theorem LawS.runs_any (h : LawS bs w wr g b1 b2 v s) : Calls Try.prog 43 #[.pointer (some ⟨v.gs, 0, none⟩)] wr fun e w' => e = .returned (.tuple #[.int .i64 (max s.r 0), .bool (decide (0 ≤ s.r))]) ∧ LawS bs w w' g b1 b2 v s := by
  refine (sruns_any v s wr h.at_).mono ?_
  rintro e w' ⟨rfl, k⟩
  exact ⟨rfl, h.keep0 k⟩
end
/-- What holds in the law's loop. -/
def KeepAt (bs : Nat) (w wr : World) (g b1 b2 : Nat) (img : List Nat) (p : Value) : Prop := ∃ v s, p = .pointer (some ⟨v.gs, 0, none⟩) ∧ LawS bs w wr g b1 b2 v s ∧ KpI s img
theorem has_list {bs : Nat} {w wr : World} {g b1 b2 : Nat} {v : StW} {s : StS} {A : Option Addr} {cA : Nat} {img : List Nat} (h : LawS bs w wr g b1 b2 v s) (hk : KpI s img) (hon : s.d.on = true) (hI : WordsAt w A img) (hi2 : img.length ≤ 32) :
    (Calls Try.prog 45 #[.pointer (some ⟨v.gs, 0, none⟩)] wr fun e w' => ∃ A' n c, e = .returned (.slice A' n c) ∧ Keep [] wr w' ∧ Calls Try.prog 56 #[.slice A' n c, .slice A img.length cA] w' fun e w2 => e = .returned (.bool true) ∧ Keep [] w' w2) := by
  refine (slist_any v s wr h.at_ h.ok (cands_two s)).mono ?_
  intro e w' hr
  obtain ⟨A', c, ps, hp, rfl, hc, hws, k⟩ := hr.opened
  obtain ⟨k1, k2, k3⟩ := hk.has hon
  refine ⟨A', _, c, rfl, k, ?_⟩
  have hl : ps.length = (candsS s).length := by rw [← hp, List.length_map]
  refine has_yes A' _ c ps A img.length cA img w' hl k1 hc hws rfl ((hI.rows.keep0 h.keep).keep0 k) (by omega) (fun p hp2 h0 => k2 p.c (by rw [← hp]; exact List.mem_map_of_mem hp2) h0) ?_
  obtain ⟨c0, hc0, h0⟩ := k3
  rw [← hp] at hc0
  obtain ⟨p, hp2, rfl⟩ := List.mem_map.1 hc0
  exact ⟨p, hp2, h0⟩

set_option maxRecDepth 100000 in
set_option maxHeartbeats 4000000 in
theorem skeeps_any (A : Option Addr) (cA : Nat) (img : List Nat) (B : Option Addr) (cB : Nat) (ms : List (SOp × SOpV)) (w : World) (hI : WordsAt w A img) (hm : SOpsAt w B ms) :
    Calls Try.prog 10 #[.slice A img.length cA, .slice B ms.length cB] w fun e w' => e = .returned (.bool true) ∧ Keep [] w w' := by
  have hl := hm.len
  have hli := hI.len
  unfold maxLen at hl hli
  have HGR := Lib.hid (great_any9 B cB ms w hm)
  have HAL := fun W => Lib.hid (alive_any9 W)
  have HII := Lib.hid hI
  have HMW := Lib.hid hm
  go_enter Try.func10, Try.ntmps10
  go_wp2_with fail
  refine HGR.out.mono ?_
  rintro e w1 ⟨r, rfl, hr, k1⟩
  clear HGR
  cases r
  case true =>
    clear hr hm hI
    go_wp2_with fail
    go_ret
    exact ⟨rfl, k1⟩
  by_cases hi1 : img.length < 1
  · have q1 : decide ((img.length : Int) < 1) = true := decide_eq_true (by omega)
    have r1 : ((img.length : Int) < 1) = True := eq_true (by omega)
    have r2 : (img.length < 1) = True := eq_true (by omega)
    clear hr hm hI
    generalize img.length = il at *
    go_wp2_with fail
    go_ret
    exact ⟨rfl, k1⟩
  have q1 : decide ((img.length : Int) < 1) = false := decide_eq_false (by omega)
  have r1 : ((img.length : Int) < 1) = False := eq_false (by omega)
  have r2 : (img.length < 1) = False := eq_false (by omega)
  by_cases hi2 : 32 < img.length
  · have q3 : decide ((32 : Int) < (img.length : Int)) = true := decide_eq_true (by omega)
    have r3 : ((32 : Int) < (img.length : Int)) = True := eq_true (by omega)
    clear hr hm hI
    generalize img.length = il at *
    go_wp2_with fail
    go_ret
    exact ⟨rfl, k1⟩
  have q3 : decide ((32 : Int) < (img.length : Int)) = false := decide_eq_false (by omega)
  have r3 : ((32 : Int) < (img.length : Int)) = False := eq_false (by omega)
  obtain ⟨hg1, hg2⟩ := hr rfl
  obtain ⟨s0, i1, i2, hrun, hr0, hns, hnw, hop, hx1, hwear, hroom⟩ := start9 (l := img) hI.lt (by omega) (by omega)
  have HST := Lib.hid (lstart_any A img.length cA w1 rfl hI.lt (hI.rows.keep0 k1) (by omega) (by omega) i1 i2)
  have HKP : Hid (KpI s0 img) := ⟨hrun.ok, hrun.a, hr0⟩
  have HG1 := Lib.hid hg1
  have HG2 := Lib.hid hg2
  have HK1 := Lib.hid k1
  have HIL : Hid (img.length ≤ 32) := by show _ ≤ _; omega
  have HLS : Hid (∀ bs wr g b1 b2 v s, LawS bs w wr g b1 b2 v s → KpI s img → s.d.on = true → Calls Try.prog 45 #[.pointer (some ⟨v.gs, 0, none⟩)] wr fun e w' => ∃ A' n c, e = .returned (.slice A' n c) ∧ Keep [] wr w' ∧ Calls Try.prog 56 #[.slice A' n c, .slice A img.length cA] w' fun e w2 => e = .returned (.bool true) ∧ Keep [] w' w2) :=
    fun bs wr g b1 b2 v s h1 h2 h3 => has_list h1 h2 h3 HII.out HIL.out
  clear hr hm hI k1 hg1 hg2 i1 i2 hrun hr0 hns hnw hop hx1 hwear hroom hi1 hi2
  generalize img.length = il at *
  go_upto_region 3 with fail
  clear q1 r1 r2 q3 r3
  go_wp2_with fail
  refine HST.out.mono ?_
  rintro e w2 ⟨v0, rfl, hs2, hlo2, k2⟩
  have HL0 : Hid (LawS w1.heap.size w w2 v0.g v0.b1 v0.b2 v0 s0) := ⟨hs2, HKP.out.ok, ⟨rfl, rfl, rfl⟩, hlo2, HK1.out.size, HK1.out.then k2⟩
  clear hs2 hlo2 k2 HST HK1
  generalize w1.heap.size = bs at *
  generalize hg0 : v0.g = g at *
  generalize hgb1 : v0.b1 = b1 at *
  generalize hgb2 : v0.b2 = b2 at *
  clear hg0 hgb1 hgb2
  go_wp2_with fail
  go_loopw [6, 7, 8] (fun v6 v7 v8 wr => ∃ (i : Nat), i ≤ ms.length ∧ v7 = .int .i64 (i : Int) ∧ KeepAt bs w wr g b1 b2 img v6) (fun _ v7 _ _ => ms.length - (intOf v7).toNat)
  case atStart => exact ⟨0, Nat.zero_le _, rfl, v0, s0, rfl, HL0.out, HKP.out⟩
  case round =>
    obtain ⟨i, hi, rfl, v, s, rfl, hL, hkp⟩ := hrel
    have HL := Lib.hid hL
    have HKp := Lib.hid hkp
    clear hL hkp HL0 HKP
    by_cases hlt : i < ms.length
    · obtain ⟨ba, oa, rfl, hba, hc⟩ := HMW.out.op (by omega)
      have hcs : ∀ W', Keep [] w W' → ∀ k, (hk : k < ms.length) → CellsAt W' ba (oa + k * 4) (sopCells ms[k]) := fun W' kk k hk j u hu => (kk.cell (p := ⟨ba, oa + k * 4 + j, none⟩) hba (by simp)).trans (hc k hk j u hu)
      have HOP : Hid (∀ W', Keep [] wr W' → CellsAt W' ba (oa + i * 4) (sopCells ms[i])) := fun W' kk => hcs W' (HL.out.keep.then kk) i hlt
      have HOA : Hid (SOpAt w ms[i]) := HMW.out.each _ (List.getElem_mem hlt)
      have HOL : Hid (ms[i].1.l.length ≤ 40) := HG2.out _ (List.getElem_mem hlt)
      have HOFF : Hid (0 < ms[i].1.l.length → Off v.all ms[i].2.a) := fun h0 ad ha hmem => by
        obtain ⟨b', o', e', hb', _⟩ := HOA.out.words.addr h0
        rw [e'] at ha
        cases ha
        have h1 := HL.out.lo _ hmem
        have h2 := HL.out.sz
        dsimp only at h1
        omega
      generalize ms[i] = m at *
      obtain ⟨o, x⟩ := m
      dsimp only at HOL HOFF
      have hi0 : (0 : Int) ≤ (i : Int) := by omega
      have hi1 : (i : Int) < (ms.length : Int) := by omega
      have c0 : wr.cell? ⟨ba, oa + i * 4, none⟩ = some (.int .i64 o.kind) := HOP.out wr (Keep.refl _ _) 0 _ rfl
      obtain ⟨m1, m2, m3⟩ := kindN_facts o.kind
      clear hcs hc
      go_upto_region 10 with fail
      rw [m3]
      clear m1 m2 m3 c0
      have HMX : Hid (ms.length = ms.length) := Lib.hid rfl
      have HKD : Hid (kindN o.kind = kindN o.kind) := Lib.hid rfl
      obtain ⟨kn, hkn⟩ : ∃ kn, kindN o.kind = kn := ⟨_, rfl⟩
      rw [hkn]
      have HKN := Lib.hid hkn
      clear hkn HKD HMX
      by_cases hsk : kn = 4 ∨ kn = 5 ∨ kn = 6
      · clear HOP HOA HOL HOFF HG2
        rcases hsk with rfl | rfl | rfl
        · go_wp2_with fail
          go_roundw
          case rel => exact ⟨i + 1, by omega, by go_num, v, s, rfl, HL.out, HKp.out⟩
          case measure => simp [intOf] <;> omega
        · go_wp2_with fail
          go_roundw
          case rel => exact ⟨i + 1, by omega, by go_num, v, s, rfl, HL.out, HKp.out⟩
          case measure => simp [intOf] <;> omega
        · go_wp2_with fail
          go_roundw
          case rel => exact ⟨i + 1, by omega, by go_num, v, s, rfl, HL.out, HKp.out⟩
          case measure => simp [intOf] <;> omega
      · have z4 : (kn == 4) = false := beq_eq_false_iff_ne.2 (by omega)
        have z5 : (kn == 5) = false := beq_eq_false_iff_ne.2 (by omega)
        have z6 : (kn == 6) = false := beq_eq_false_iff_ne.2 (by omega)
        have y4 : (kn = 4) = False := eq_false (by omega)
        have y5 : (kn = 5) = False := eq_false (by omega)
        have y6 : (kn = 6) = False := eq_false (by omega)
        go_upto_region 11 with fail
        clear z4 z5 z6 y4 y5 y6
        go_wp2_with (refine stop_load 100 (.tmp 57) rfl ?_)
        constructor
        refine wpList_load_agg rfl 100 (.tmp 57) rfl rfl (cs := sopCells (o, x)) agg_sop (HOP.out wr (Keep.refl _ _)) ?_
        have hdo := do_any9 v s o x wr HL.out.at_ HL.out.ok (HOA.out.keep0 HL.out.keep) HOFF.out HOL.out
        rw [HL.out.g.1] at hdo
        have HOK : Hid (SrOk (doSr s o).1) := doSr_ok HL.out.ok HOA.out.lt HOA.out.s32 HOA.out.n64
        by_cases h8 : kn = 8
        · have hds : doSr s o = (newSr (powerS s.d true), 0) := by
            have h := HKN.out
            rw [h8] at h
            unfold doSr
            rw [if_neg (by omega), if_neg (by omega), if_neg (by omega), if_neg (by omega), if_neg (by omega), if_neg (by omega), if_pos h]
          rw [hds] at hdo HOK
          obtain ⟨hst, hkp2⟩ := HKp.out.anew HOK.out
          have hon2 : ({ newSr (powerS s.d true) with r := 0 } : StS).d.on = true := rfl
          have HON2 := Lib.hid hon2
          have HKP2 := Lib.hid hkp2
          have HST2 := Lib.hid hst
          clear hon2 hkp2 hst hds
          generalize ({ newSr (powerS s.d true) with r := 0 } : StS) = s3 at *
          generalize newSr (powerS s.d true) = s2 at *
          subst h8
          go_wp2_with fail
          refine hdo.mono ?_
          rintro e w4 ⟨v2, hg2, ha2, rfl, hs4, k4⟩
          have HL4 := Lib.hid (HL.out.do_ HOK.out hg2 ha2 hs4 k4)
          clear hg2 ha2 hs4 k4 hdo HOP HOA HOL HOFF HOK
          have hsc := HL4.out.start_any 0
          rw [HST2.out] at hsc
          go_wp2_with (refine hsc.mono ?_; rintro e w5 ⟨rfl, hl5⟩; have HL5 := Lib.hid hl5; have honc := hl5.on_any; rw [HON2.out] at honc; clear hl5 hsc)
          refine honc.mono ?_
          rintro e w6 ⟨rfl, rfl⟩
          have hlc := HLS.out bs w5 g b1 b2 v2 s3 HL5.out HKP2.out HON2.out
          clear honc
          go_wp2_with fail
          refine hlc.mono ?_
          rintro e w6 ⟨A6, n6, c6, rfl, k6, hhas⟩
          have HL6 := Lib.hid (HL5.out.keep0 k6)
          clear hlc k6
          go_wp2_with fail
          refine hhas.mono ?_
          rintro e w7 ⟨rfl, k7⟩
          have HL7 := Lib.hid (HL6.out.keep0 k7)
          clear hhas k7
          go_wp2_with fail
          go_roundw
          case rel => exact ⟨i + 1, by omega, by go_num, v2, s3, rfl, HL7.out, HKP2.out⟩
          case measure => simp [intOf] <;> omega
        · have HKP2 : Hid (KpI (doSr s o).1 img) := HKp.out.step HOA.out.lt HOA.out.s32 HOA.out.n64 (by rw [HKN.out]; omega) (by rw [HKN.out]; omega) (by rw [HKN.out]; omega) (by rw [HKN.out]; exact h8)
          have z8 : (kn == 8) = false := beq_eq_false_iff_ne.2 h8
          have y8 : (kn = 8) = False := eq_false h8
          generalize doSr s o = r2 at *
          obtain ⟨s2, n2⟩ := r2
          dsimp only at hdo HOK HKP2
          clear hsk h8
          go_wp2_with fail
          refine hdo.mono ?_
          rintro e w4 ⟨v2, hg2, ha2, rfl, hs4, k4⟩
          have HL4 := Lib.hid (HL.out.do_ HOK.out hg2 ha2 hs4 k4)
          clear hg2 ha2 hs4 k4 hdo HOP HOA HOL HOFF HOK
          have honc := HL4.out.on_any
          cases hon : s2.d.on with
          | false =>
            rw [hon] at honc
            go_wp2_with (refine honc.mono ?_; rintro e w6 ⟨rfl, rfl⟩)
            go_roundw
            case rel => exact ⟨i + 1, by omega, by go_num, v2, s2, rfl, HL4.out, HKP2.out⟩
            case measure => simp [intOf] <;> omega
          | true =>
            rw [hon] at honc
            have hlc := HLS.out bs w4 g b1 b2 v2 s2 HL4.out HKP2.out hon
            clear hon
            go_wp2_with (refine honc.mono ?_; rintro e w6 ⟨rfl, rfl⟩)
            refine hlc.mono ?_
            rintro e w6 ⟨A6, n6, c6, rfl, k6, hhas⟩
            have HL6 := Lib.hid (HL4.out.keep0 k6)
            clear hlc k6
            go_wp2_with fail
            refine hhas.mono ?_
            rintro e w7 ⟨rfl, k7⟩
            have HL7 := Lib.hid (HL6.out.keep0 k7)
            clear hhas k7
            go_wp2_with fail
            go_roundw
            case rel => exact ⟨i + 1, by omega, by go_num, v2, s2, rfl, HL7.out, HKP2.out⟩
            case measure => simp [intOf] <;> omega
    · have q1 : decide ((i : Int) < (ms.length : Int)) = false := decide_eq_false (by omega)
      have q2 : ((i : Int) < (ms.length : Int)) = False := eq_false (by omega)
      have q3 : (i < ms.length) = False := eq_false hlt
      have hpw := HL.out.power_any true
      have HKP2 : Hid (KpI { s with d := powerS s.d true } img) := ⟨HL.out.ok.dev ⟨HKp.out.ok.ok.ns1, HKp.out.ok.ok.ns2, HKp.out.ok.ok.nw1, HKp.out.ok.ok.nw2, HKp.out.ok.ok.lim2, HKp.out.ok.ok.blen, HKp.out.ok.ok.wlen, HKp.out.ok.ok.bit, HKp.out.ok.ok.wear, HKp.out.ok.ok.seed2, HKp.out.ok.ok.left2⟩ ⟨rfl, rfl, rfl⟩,
        HKp.out.a.same (HKp.out.ok.bk (i := 0) (by decide)) ⟨rfl, rfl, rfl⟩ rfl rfl (fun _ _ => rfl), HKp.out.r⟩
      have HON2 : Hid (({ s with d := powerS s.d true } : StS).d.on = true) := Lib.hid rfl
      generalize ({ s with d := powerS s.d true } : StS) = s2 at *
      clear hlt
      go_upto_region 19 with fail
      go_wp2_with fail
      refine hpw.mono ?_
      rintro e w4 ⟨rfl, hl4⟩
      have hlc := HLS.out bs w4 g b1 b2 v s2 hl4 HKP2.out HON2.out
      have HL4 := Lib.hid hl4
      clear hpw hl4
      go_wp2_with fail
      refine hlc.mono ?_
      rintro e w6 ⟨A6, n6, c6, rfl, k6, hhas⟩
      have HL6 := Lib.hid (HL4.out.keep0 k6)
      clear hlc k6
      go_wp2_with fail
      refine hhas.mono ?_
      rintro e w7 ⟨rfl, k7⟩
      have HL7 := Lib.hid (HL6.out.keep0 k7)
      clear hhas k7
      go_wp2_with fail
      refine (HAL _).out.mono ?_
      rintro e w8 ⟨rfl, k8⟩
      go_wp2
      go_ret
      exact ⟨rfl, HL7.out.keep.then k8⟩
end Go.Proofs.Yteanpgkonhdbpaa
