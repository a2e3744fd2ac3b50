/- bank.Put, walked. Condition: the device is one that may be, the bank one that fits. -/
import Derived.Test.YteanpgkonhdbpaaBkD
namespace Go.Proofs.Yteanpgkonhdbpaa
open Go.RowKit

theorem prog_dims (d : Dev) (s q : Int) (v : Nat) : DimsJ d (progS d s q v).1 := by
  unfold progS
  split
  · exact DimsJ.refl d
  · rename_i hon
    split
    · exact DimsJ.refl d
    · dsimp only
      split
      · exact DimsJ.refl d
      · have hd := (goes_cases (d := d) (by simpa using hon)).2.2.2
        split <;> exact ⟨hd.ns, hd.nw, hd.lim⟩
theorem BkOk.dims {d d' : Dev} {b : BkS} (h : BkOk d b) (k : DimsJ d d') : BkOk d' b := ⟨h.three, by rw [k.ns]; exact h.fits, by rw [k.nw]; exact h.words⟩
theorem sumSet_bk (g : Nat) (b : BkS) (s m : Nat) : sumSet (bkCells g b) 5 s m = bkCells g { b with s := s, m := m } := rfl
/-- What Put does with words, one by one. -/
def putL (d : Dev) (b : BkS) : List Nat → Dev × BkS × Int
  | [] => (d, b, 0)
  | x :: l =>
    if (progS d ((b.base + 2 + b.pn / d.nw : Nat) : Int) ((b.pn % d.nw : Nat) : Int) x).2 = 0 then
      putL (progS d ((b.base + 2 + b.pn / d.nw : Nat) : Int) ((b.pn % d.nw : Nat) : Int) x).1 { b with pn := b.pn + 1, s := wordC b.s x, m := b.m + 4 } l
    else ((progS d ((b.base + 2 + b.pn / d.nw : Nat) : Int) ((b.pn % d.nw : Nat) : Int) x).1, { b with opn := false }, (progS d ((b.base + 2 + b.pn / d.nw : Nat) : Int) ((b.pn % d.nw : Nat) : Int) x).2)
theorem putL_one (d : Dev) (b : BkS) (x : Nat) : putL d b [x] = if (progS d ((b.base + 2 + b.pn / d.nw : Nat) : Int) ((b.pn % d.nw : Nat) : Int) x).2 = 0 then ((progS d ((b.base + 2 + b.pn / d.nw : Nat) : Int) ((b.pn % d.nw : Nat) : Int) x).1, { b with pn := b.pn + 1, s := wordC b.s x, m := b.m + 4 }, 0) else ((progS d ((b.base + 2 + b.pn / d.nw : Nat) : Int) ((b.pn % d.nw : Nat) : Int) x).1, { b with opn := false }, (progS d ((b.base + 2 + b.pn / d.nw : Nat) : Int) ((b.pn % d.nw : Nat) : Int) x).2) := rfl
theorem putL_app : ∀ (l r : List Nat) (d : Dev) (b : BkS) (d' : Dev) (b' : BkS), putL d b l = (d', b', 0) → putL d b (l ++ r) = putL d' b' r
  | [], r, d, b, d', b', h => by
    have h1 : d = d' := congrArg Prod.fst h
    have h2 : b = b' := congrArg (fun t => t.2.1) h
    subst h1
    subst h2
    rfl
  | x :: l, r, d, b, d', b', h => by
    rw [putL] at h
    rw [List.cons_append, putL]
    split at h
    · rename_i h0
      rw [if_pos h0]
      exact putL_app l r _ _ d' b' h
    · rename_i h0
      exact absurd (congrArg (fun t => t.2.2) h) h0
theorem putL_stop : ∀ (l r : List Nat) (d : Dev) (b : BkS) (d' : Dev) (b' : BkS) (e : Int), putL d b l = (d', b', e) → e ≠ 0 → putL d b (l ++ r) = (d', b', e)
  | [], r, d, b, d', b', e, h, he => absurd (congrArg (fun t => t.2.2) h).symm he
  | x :: l, r, d, b, d', b', e, h, he => by
    rw [putL] at h
    rw [List.cons_append, putL]
    split at h
    · rename_i h0
      rw [if_pos h0]
      exact putL_stop l r _ _ d' b' e h he
    · rename_i h0
      rw [if_neg h0]
      exact h
/-- So many words were put. -/
def putsB (b : BkS) (l : List Nat) : BkS := { b with pn := b.pn + l.length, s := foldC b.s l, m := b.m + l.length * 4 }
theorem putsB_snoc (b : BkS) (l : List Nat) (x : Nat) : putsB b (l ++ [x]) = { putsB b l with pn := (putsB b l).pn + 1, s := wordC (putsB b l).s x, m := (putsB b l).m + 4 } := by
  unfold putsB
  rw [foldC_snoc, List.length_append, List.length_singleton]
  congr 1
  show b.m + (l.length + 1) * 4 = b.m + l.length * 4 + 4
  omega
def putB (d : Dev) (b : BkS) (l : List Nat) : Dev × BkS × Int :=
  if b.opn = false then (d, b, 80) else if (roomB d b : Int) - (b.pn : Int) < (l.length : Int) then (d, b, 81) else putL d b l

section
variable (gb g b1 b2 : Nat) (d : Dev) (b : BkS) (w : World) (hb : BankAt w gb g b) (hd : DevAt w g b1 b2 d) (ho : d.Ok) (hk : BkOk d b) (hp : b.pn ≤ 100000) (hs : b.s < 4294967296) (hm : b.m ≤ 1000000)
  (A : Option Addr) (n c : Nat) (l : List Nat) (hl : l.length = n) (h32 : ∀ x ∈ l, x < 4294967296) (hr : Reads w 1 A n (wordsV l)) (hoff : ∀ o, A = some o → o.block ≠ gb ∧ o.block ≠ g ∧ o.block ≠ b1 ∧ o.block ≠ b2) (hn : n ≤ 1000000000)
include hb hd ho hk hp hs hm hl h32 hr hoff hn
set_option maxRecDepth 100000 in
set_option maxHeartbeats 8000000 in
theorem bput_any : Calls Try.prog 70 #[.pointer (some ⟨gb, 0, none⟩), .slice A n c] w fun e w' => e = .returned (.int .i64 (putB d b l).2.2) ∧ LeftB w w' gb g b1 b2 (putB d b l).1 (putB d b l).2.1 := by
  have hns := ho.ns2
  have hf := hk.fits
  have h3 := hk.three
  obtain ⟨c0, c1, c2, c3, c4⟩ := hb.cells
  have HRO := Lib.hid (broom_any gb g b1 b2 d b w hb hd ho hk)
  have hrm : roomB d b ≤ 4096 := Nat.min_le_right _ _
  have HPB : Hid (putB d b l = if b.opn = false then (d, b, 80) else if (roomB d b : Int) - (b.pn : Int) < (l.length : Int) then (d, b, 81) else putL d b l) := show _ = _ from rfl
  have HO := Lib.hid ho
  have HK := Lib.hid hk
  have HB := Lib.hid hb
  have HD := Lib.hid hd
  have HR := Lib.hid hr
  have HL := Lib.hid hl
  have H32 := Lib.hid h32
  have HOF := Lib.hid hoff
  have HLF : Hid (LeftB w w gb g b1 b2 d b) := ⟨hd, hb, (Keep.refl [] w).mono (by simp)⟩
  have HPS : Hid (b.pn ≤ 100000 ∧ b.s < 4294967296 ∧ b.m ≤ 1000000) := ⟨hp, hs, hm⟩
  clear hb hd ho hk hr hl h32 hoff hs hm
  generalize putB d b l = res at *
  go_enter Try.func70, Try.ntmps70
  cases hop : b.opn with
  | false =>
    rw [hop] at c3
    have HRS : Hid (res = (d, b, 80)) := by show _ = _; rw [HPB.out, if_pos hop]
    go_wp2_with fail
    go_ret
    rw [HRS.out]
    exact ⟨rfl, HLF.out⟩
  | true =>
    rw [hop] at c3
    have hwr : IntKind.i64.wrap ((roomB d b : Int) - (b.pn : Int)) = (roomB d b : Int) - (b.pn : Int) := IntWalk.i64_in _ (by omega)
    have hG : ∀ W, Keep [] w W → W.cell? ⟨gb, 4, none⟩ = some (.int .i64 (b.pn : Int)) ∧ True ∧ True := fun W k => ⟨(HB.out.keep0 k).cells.2.2.2.2, trivial, trivial⟩
    have HRO2 : Hid (∀ W, Keep [] w W → Calls Try.prog 30 #[.pointer (some ⟨gb, 0, none⟩)] W fun e w' => e = .returned (.int .i64 ((roomB d b : Nat) : Int)) ∧ Keep [] w w') := fun W k => (broom_any gb g b1 b2 d b W (HB.out.keep0 k) (HD.out.keep0 k) HO.out HK.out).mono fun e w' h => ⟨h.1, k.then h.2⟩
    have hLn : l.length = n := HL.out
    by_cases hfull : (roomB d b : Int) - (b.pn : Int) < (n : Int)
    · have q0 : decide ((roomB d b : Int) - (b.pn : Int) < (n : Int)) = true := decide_eq_true hfull
      have p0 := eq_true hfull
      have HRS : Hid (res = (d, b, 81)) := by show _ = _; rw [HPB.out, if_neg (by rw [hop]; decide), hLn, if_pos hfull]
      clear HRO hLn
      go_upto_region 3 with fail
      refine wp_region_flow (Keep [] w) rfl (by kernel_rfl) (Keep.refl _ _).drew ?_
      iterate 3 (refine fl_val (v := ?_) (by rfl) ?_ ?_; rotate_left; (intro w' hS; obtain ⟨f0,f1,f2⟩ := hG w' hS; go_simp; with_reducible rfl); simp only [Act.put, List.setIfInBounds_toArray, List.set_cons_zero, List.set_cons_succ])
      refine fl_call (f := 30) (v := .int .i64 ((roomB d b : Nat) : Int)) (by rfl) rfl (by simp only [List.map_toArray, List.map_cons, List.map_nil]; rfl) Try.func30 (by kernel_rfl) (by kernel_rfl) (fun w' hS => ((HRO2.out w' hS))) ?_; simp only [Act.put, List.setIfInBounds_toArray, List.set_cons_zero, List.set_cons_succ]
      iterate 6 (refine fl_val (v := ?_) (by rfl) ?_ ?_; rotate_left; (intro w' hS; obtain ⟨f0,f1,f2⟩ := hG w' hS; go_simp; with_reducible rfl); simp only [Act.put, List.setIfInBounds_toArray, List.set_cons_zero, List.set_cons_succ])
      refine fl_nil ?_
      intro w4 hS
      go_wp2_with fail
      go_ret
      rw [HRS.out]
      exact ⟨rfl, HLF.out.dev.keep0 hS, HLF.out.bank.keep0 hS, hS.mono (by simp)⟩
    · have q0 : decide ((roomB d b : Int) - (b.pn : Int) < (n : Int)) = false := decide_eq_false hfull
      have p0 := eq_false hfull
      have HRS : Hid (res = putL d b l) := by show _ = _; rw [HPB.out, if_neg (by rw [hop]; decide), hLn, if_neg hfull]
      have hn4 : b.pn + n ≤ 4096 := by omega
      clear HRO hLn
      go_upto_region 3 with fail
      refine wp_region_flow (Keep [] w) rfl (by kernel_rfl) (Keep.refl _ _).drew ?_
      iterate 3 (refine fl_val (v := ?_) (by rfl) ?_ ?_; rotate_left; (intro w' hS; obtain ⟨f0,f1,f2⟩ := hG w' hS; go_simp; with_reducible rfl); simp only [Act.put, List.setIfInBounds_toArray, List.set_cons_zero, List.set_cons_succ])
      refine fl_call (f := 30) (v := .int .i64 ((roomB d b : Nat) : Int)) (by rfl) rfl (by simp only [List.map_toArray, List.map_cons, List.map_nil]; rfl) Try.func30 (by kernel_rfl) (by kernel_rfl) (fun w' hS => ((HRO2.out w' hS))) ?_; simp only [Act.put, List.setIfInBounds_toArray, List.set_cons_zero, List.set_cons_succ]
      iterate 6 (refine fl_val (v := ?_) (by rfl) ?_ ?_; rotate_left; (intro w' hS; obtain ⟨f0,f1,f2⟩ := hG w' hS; go_simp; with_reducible rfl); simp only [Act.put, List.setIfInBounds_toArray, List.set_cons_zero, List.set_cons_succ])
      refine fl_nil ?_
      intro w4 hS
      have HS4 := Lib.hid hS
      clear hS hG HRO2 hfull q0 p0 hwr
      go_wp2_with fail
      go_loopw [27] (fun v27 wr => ∃ (k : Nat) (dk : Dev), k ≤ n ∧ v27 = .int .i64 (k : Int) ∧ putL d b (l.take k) = (dk, putsB b (l.take k), 0) ∧ dk.Ok ∧ DimsJ d dk ∧ DevAt wr g b1 b2 dk ∧ BankAt wr gb g (putsB b (l.take k)) ∧ Keep [gb, g, b1, b2] w wr) (fun v27 _ => n - (intOf v27).toNat)
      case atStart => exact ⟨0, d, Nat.zero_le _, rfl, rfl, HO.out, DimsJ.refl d, HD.out.keep0 HS4.out, HB.out.keep0 HS4.out, HS4.out.mono (by simp)⟩
      case round =>
        obtain ⟨k, dk, hk, rfl, hpl, hok, hdm, hdv, hbk, hkp⟩ := hrel
        by_cases hlt : k < n
        · have hkl : k < l.length := by rw [HL.out]; exact hlt
          obtain ⟨bo, oo, rfl, hbo, hcs⟩ := HR.out.addr (by omega)
          have hof := HOF.out _ rfl
          have hx : wr.cell? ⟨bo, oo + k, none⟩ = some (.int .u32 (l[k] : Int)) := (hkp.cell (p := ⟨bo, oo + k, none⟩) hbo (by simp only [List.mem_cons, List.not_mem_nil, or_false]; dsimp only at hof; omega)).trans (hcs k _ (by rw [List.getElem?_map, List.getElem?_eq_getElem hkl]; rfl))
          have hx32 := H32.out l[k] (List.getElem_mem hkl)
          have HTK : Hid (l.take (k + 1) = l.take k ++ [l[k]]) := List.take_succ_eq_append_getElem hkl
          have HTD : Hid (∃ r, l = (l.take k ++ [l[k]]) ++ r) := ⟨l.drop (k + 1), by rw [← List.take_succ_eq_append_getElem hkl, List.take_append_drop]⟩
          have hlk : (l.take k).length = k := by rw [List.length_take]; omega
          obtain ⟨bk, hbkk⟩ : ∃ bk, putsB b (l.take k) = bk := ⟨_, rfl⟩
          have hbpn : bk.pn = b.pn + k := by rw [← hbkk]; show b.pn + (l.take k).length = _; rw [hlk]
          have hbs : bk.s < 4294967296 := by rw [← hbkk]; exact foldC_lt _ HPS.out.2.1 (fun y hy => H32.out y (List.mem_of_mem_take hy))
          have hbm : bk.m ≤ 2000000 := by rw [← hbkk]; show b.m + (l.take k).length * 4 ≤ _; rw [hlk]; have := HPS.out.2.2; omega
          have HPN : Hid (putsB b (l.take (k + 1)) = { bk with pn := bk.pn + 1, s := wordC bk.s l[k], m := bk.m + 4 }) := by show _ = _; rw [HTK.out, putsB_snoc, hbkk]
          have hbko : BkOk dk bk := by rw [← hbkk]; exact (⟨HK.out.three, HK.out.fits, HK.out.words⟩ : BkOk d (putsB b (l.take k))).dims hdm
          rw [hbkk] at hpl hbk
          have HAP := Lib.hid (putL_app (l.take k) [l[k]] d b dk bk hpl)
          generalize l[k] = x at *
          rw [putL_one] at HAP
          obtain ⟨e0, e1, e2, e3, e4⟩ := hbk.cells
          have HDA := Lib.hid (bdata_any gb g b1 b2 dk bk wr hbk hdv hok hbko bk.pn (by omega))
          have HPR : Hid (∀ W, Keep [] wr W → Calls Try.prog 67 #[.pointer (some ⟨g, 0, none⟩), .int .i64 ((bk.base + 2 + bk.pn / dk.nw : Nat) : Int), .int .i64 ((bk.pn % dk.nw : Nat) : Int), .int .u32 (x : Int)] W (Leaves W g b1 b2 (progS dk ((bk.base + 2 + bk.pn / dk.nw : Nat) : Int) ((bk.pn % dk.nw : Nat) : Int) x).1 (progS dk ((bk.base + 2 + bk.pn / dk.nw : Nat) : Int) ((bk.pn % dk.nw : Nat) : Int) x).2)) := fun W kk => fprog_any g b1 b2 dk _ _ x W (hdv.keep0 kk) hok hx32
          have HO5 : Hid ((progS dk ((bk.base + 2 + bk.pn / dk.nw : Nat) : Int) ((bk.pn % dk.nw : Nat) : Int) x).1.Ok) := progS_ok hok _ _ x hx32
          have HD5 : Hid (DimsJ d (progS dk ((bk.base + 2 + bk.pn / dk.nw : Nat) : Int) ((bk.pn % dk.nw : Nat) : Int) x).1) := hdm.trans (prog_dims _ _ _ _)
          obtain ⟨d5, e5, hp5⟩ : ∃ d5 e5, progS dk ((bk.base + 2 + bk.pn / dk.nw : Nat) : Int) ((bk.pn % dk.nw : Nat) : Int) x = (d5, e5) := ⟨_, _, rfl⟩
          rw [hp5] at HPR HO5 HD5 HAP
          dsimp only at HAP HPR HO5 HD5
          clear hp5
          generalize bk.base + 2 + bk.pn / dk.nw = ps at *
          generalize bk.pn % dk.nw = pq at *
          have HBK := Lib.hid hbk
          have HDV := Lib.hid hdv
          have HKP := Lib.hid hkp
          have hki : (k : Int) < (n : Int) := by omega
          have hki0 : (0 : Int) ≤ (k : Int) := by omega
          have hwk : IntKind.i64.wrap ((k : Int) + 1) = ((k + 1 : Nat) : Int) := by rw [show (k : Int) + 1 = ((k + 1 : Nat) : Int) by omega]; exact IntWalk.i64_in _ (by omega)
          have hbp4 : bk.pn ≤ 4096 := by omega
          clear hbpn hlk
          have hwp : IntKind.i64.wrap ((bk.pn : Int) + 1) = ((bk.pn + 1 : Nat) : Int) := by rw [show (bk.pn : Int) + 1 = ((bk.pn + 1 : Nat) : Int) by omega]; exact IntWalk.i64_in _ (by omega)
          have hcg : ∀ W, Keep [] wr W → W.cell? ⟨gb, 0, none⟩ = some (.pointer (some ⟨g, 0, none⟩)) := fun W kk => (hbk.keep0 kk).cells.1
          clear hpl hbkk hbko hbk hdv hkp hcs hof hdm hok e1 e2 e3
          go_wp2_with fail
          refine HDA.out.mono ?_
          rintro e w5 ⟨rfl, k5⟩
          have g0 := hcg w5 k5
          go_wp2_with fail
          refine (HPR.out w5 k5).mono ?_
          rintro e w6 ⟨rfl, hd6, k6⟩
          have hn6 := bank_ne (HDV.out.keep0 k5) (HBK.out.keep0 k5)
          have hb6 : BankAt w6 gb g bk := Blk.keep (HBK.out.keep0 k5) k6 (by simp only [List.mem_cons, List.not_mem_nil, or_false]; omega)
          have K6 : Keep [gb, g, b1, b2] w w6 := (HKP.out.then k5).trans k6 (fun y hy _ => by simp only [List.mem_cons, List.not_mem_nil, or_false] at hy ⊢; omega)
          by_cases h5 : e5 = 0
          · subst h5
            rw [if_pos rfl] at HAP
            have hb6' : Blk w6 gb 128 (sumSet (bkCells g bk) 5 bk.s bk.m) := hb6
            have HWD := Lib.hid (cword_any gb 5 128 (bkCells g bk) bk.s bk.m x w6 hbs hx32 (by omega) hb6' (by show 6 < 7; decide))
            have HD6 := Lib.hid hd6
            have HK6 := Lib.hid K6
            clear hd6 k5 k6 hb6 hb6' K6 g0 e0 e4 hcg
            go_wp2_with fail
            refine HWD.out.mono ?_
            rintro e w7 ⟨rfl, hb7, k7⟩
            have hb7' : BankAt w7 gb g { bk with s := wordC bk.s x, m := bk.m + 4 } := hb7
            have g4 : w7.cell? ⟨gb, 4, none⟩ = some (.int .i64 (bk.pn : Int)) := hb7'.cells.2.2.2.2
            have gf := Blk.frozen hb7' 4
            have hgl := Blk.lt hb7'
            have HB8 : Hid (BankAt (w7.setCell ⟨gb, 4, none⟩ (.int .i64 ((bk.pn + 1 : Nat) : Int))) gb g { bk with pn := bk.pn + 1, s := wordC bk.s x, m := bk.m + 4 }) := Blk.set_ hb7' 4 _
            have K8 : Hid (Keep [gb, g, b1, b2] w (w7.setCell ⟨gb, 4, none⟩ (.int .i64 ((bk.pn + 1 : Nat) : Int)))) := (HK6.out.trans k7 (fun y hy _ => by simp only [List.mem_cons, List.not_mem_nil, or_false] at hy ⊢; exact .inl hy)).trans (keep_set _ gb 4 _) (fun y hy _ => by simp only [List.mem_cons, List.not_mem_nil, or_false] at hy ⊢; exact .inl hy)
            have HD8 : Hid (DevAt (w7.setCell ⟨gb, 4, none⟩ (.int .i64 ((bk.pn + 1 : Nat) : Int))) g b1 b2 d5) := (HD6.out.keep k7 (by simp; omega) (by simp; omega) (by simp; omega)).keep (keep_set _ gb 4 _) (by simp; omega) (by simp; omega) (by simp; omega)
            clear hb7 hb7' k7
            go_wp2
            go_roundw
            case rel => exact ⟨k + 1, d5, by omega, by go_num, by rw [HTK.out, HAP.out, ← HTK.out, HPN.out], HO5.out, HD5.out, HD8.out, by rw [HPN.out]; exact HB8.out, K8.out⟩
            case measure => simp [intOf]; omega
          · rw [if_neg h5] at HAP
            have HRS2 : Hid (res = (d5, { bk with opn := false }, e5)) := by
              show _ = _
              rw [HRS.out]
              obtain ⟨r, hr⟩ := HTD.out
              rw [hr]
              exact putL_stop _ r _ _ _ _ _ HAP.out h5
            have q0 : (e5 == 0) = false := beq_eq_false_iff_ne.2 h5
            have q1 : (e5 = 0) = False := eq_false h5
            have q2 : (e5 != 0) = true := bne_iff_ne.2 h5
            have g3 : w6.cell? ⟨gb, 3, none⟩ = some (.bool bk.opn) := hb6.cells.2.2.2.1
            have gf := Blk.frozen hb6 3
            have hgl := Blk.lt hb6
            have HB8 : Hid (BankAt (w6.setCell ⟨gb, 3, none⟩ (.bool false)) gb g { bk with opn := false }) := Blk.set_ hb6 3 _
            have K8 : Hid (Keep [gb, g, b1, b2] w (w6.setCell ⟨gb, 3, none⟩ (.bool false))) := K6.trans (keep_set _ gb 3 _) (fun y hy _ => by simp only [List.mem_cons, List.not_mem_nil, or_false] at hy ⊢; exact .inl hy)
            have HD8 : Hid (DevAt (w6.setCell ⟨gb, 3, none⟩ (.bool false)) g b1 b2 d5) := hd6.keep (keep_set _ gb 3 _) (by simp; omega) (by simp; omega) (by simp; omega)
            clear hb6 hd6 k5 k6 K6 g0 e0 e4 hcg
            go_wp2
            go_ret
            rw [HRS2.out]
            exact ⟨rfl, HD8.out, HB8.out, K8.out⟩
        · have hkn : k = n := by omega
          have HRS2 : Hid (res = (dk, putsB b (l.take k), 0)) := by
            show _ = _
            rw [HRS.out, ← hpl]
            congr 1
            rw [hkn, ← HL.out, List.take_length]
          have HLE : Hid (LeftB w wr gb g b1 b2 dk (putsB b (l.take k))) := ⟨hdv, hbk, hkp⟩
          clear hpl hok hdm hdv hbk hkp
          subst hkn
          go_wp2
          go_ret
          rw [HRS2.out]
          exact ⟨rfl, HLE.out⟩
end
end Go.Proofs.Yteanpgkonhdbpaa
