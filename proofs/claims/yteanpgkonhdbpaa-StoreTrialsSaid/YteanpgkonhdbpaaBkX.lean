/- bank.Put, walked. Condition: the device is one that may be, the bank one that fits. What is programmed of a header, as iterators (header.Writes, Commits, Confirms); walked. No condition. bank.write, walked: words of the header are programmed. Condition: the device is one that may be, the bank one that fits. -/
import Derived.Test.YteanpgkonhdbpaaBkD
import Derived.Test.YteanpgkonhdbpaaHdrR
import Derived.Test.YteanpgkonhdbpaaBkI
namespace Go.Proofs.Yteanpgkonhdbpaa
open Go.RowKit

theorem prog_dims (d : Dev) (s q : Int) (v : Nat) : DimsJ d (progS d s q v).1 := by
  unfold progS
  split
  · exact DimsJ.refl d
  · rename_i hon
    split
    · exact DimsJ.refl d
    · dsimp only
      split
      · exact DimsJ.refl d
      · have hd := (goes_cases (d := d) (by simpa using hon)).2.2.2
        split <;> exact ⟨hd.ns, hd.nw, hd.lim⟩
theorem BkOk.dims {d d' : Dev} {b : BkS} (h : BkOk d b) (k : DimsJ d d') : BkOk d' b := ⟨h.three, by rw [k.ns]; exact h.fits, by rw [k.nw]; exact h.words⟩
theorem sumSet_bk (g : Nat) (b : BkS) (s m : Nat) : sumSet (bkCells g b) 5 s m = bkCells g { b with s := s, m := m } := rfl
/-- What Put does with words, one by one. -/
def putL (d : Dev) (b : BkS) : List Nat → Dev × BkS × Int
  | [] => (d, b, 0)
  | x :: l =>
    if (progS d ((b.base + 2 + b.pn / d.nw : Nat) : Int) ((b.pn % d.nw : Nat) : Int) x).2 = 0 then
      putL (progS d ((b.base + 2 + b.pn / d.nw : Nat) : Int) ((b.pn % d.nw : Nat) : Int) x).1 { b with pn := b.pn + 1, s := wordC b.s x, m := b.m + 4 } l
    else ((progS d ((b.base + 2 + b.pn / d.nw : Nat) : Int) ((b.pn % d.nw : Nat) : Int) x).1, { b with opn := false }, (progS d ((b.base + 2 + b.pn / d.nw : Nat) : Int) ((b.pn % d.nw : Nat) : Int) x).2)
theorem putL_one (d : Dev) (b : BkS) (x : Nat) : putL d b [x] = if (progS d ((b.base + 2 + b.pn / d.nw : Nat) : Int) ((b.pn % d.nw : Nat) : Int) x).2 = 0 then ((progS d ((b.base + 2 + b.pn / d.nw : Nat) : Int) ((b.pn % d.nw : Nat) : Int) x).1, { b with pn := b.pn + 1, s := wordC b.s x, m := b.m + 4 }, 0) else ((progS d ((b.base + 2 + b.pn / d.nw : Nat) : Int) ((b.pn % d.nw : Nat) : Int) x).1, { b with opn := false }, (progS d ((b.base + 2 + b.pn / d.nw : Nat) : Int) ((b.pn % d.nw : Nat) : Int) x).2) := rfl
theorem putL_app : ∀ (l r : List Nat) (d : Dev) (b : BkS) (d' : Dev) (b' : BkS), putL d b l = (d', b', 0) → putL d b (l ++ r) = putL d' b' r
  | [], r, d, b, d', b', h => by
    have h1 : d = d' := congrArg Prod.fst h
    have h2 : b = b' := congrArg (fun t => t.2.1) h
    subst h1
    subst h2
    rfl
  | x :: l, r, d, b, d', b', h => by
    rw [putL] at h
    rw [List.cons_append, putL]
    split at h
    · rename_i h0
      rw [if_pos h0]
      exact putL_app l r _ _ d' b' h
    · rename_i h0
      exact absurd (congrArg (fun t => t.2.2) h) h0
theorem putL_stop : ∀ (l r : List Nat) (d : Dev) (b : BkS) (d' : Dev) (b' : BkS) (e : Int), putL d b l = (d', b', e) → e ≠ 0 → putL d b (l ++ r) = (d', b', e)
  | [], r, d, b, d', b', e, h, he => absurd (congrArg (fun t => t.2.2) h).symm he
  | x :: l, r, d, b, d', b', e, h, he => by
    rw [putL] at h
    rw [List.cons_append, putL]
    split at h
    · rename_i h0
      rw [if_pos h0]
      exact putL_stop l r _ _ d' b' e h he
    · rename_i h0
      rw [if_neg h0]
      exact h
/-- So many words were put. -/
def putsB (b : BkS) (l : List Nat) : BkS := { b with pn := b.pn + l.length, s := foldC b.s l, m := b.m + l.length * 4 }
theorem putsB_snoc (b : BkS) (l : List Nat) (x : Nat) : putsB b (l ++ [x]) = { putsB b l with pn := (putsB b l).pn + 1, s := wordC (putsB b l).s x, m := (putsB b l).m + 4 } := by
  unfold putsB
  rw [foldC_snoc, List.length_append, List.length_singleton]
  congr 1
  show b.m + (l.length + 1) * 4 = b.m + l.length * 4 + 4
  omega
def putB (d : Dev) (b : BkS) (l : List Nat) : Dev × BkS × Int :=
  if b.opn = false then (d, b, 80) else if (roomB d b : Int) - (b.pn : Int) < (l.length : Int) then (d, b, 81) else putL d b l

section
variable (gb g b1 b2 : Nat) (d : Dev) (b : BkS) (w : World) (hb : BankAt w gb g b) (hd : DevAt w g b1 b2 d) (ho : d.Ok) (hk : BkOk d b) (hp : b.pn ≤ 100000) (hs : b.s < 4294967296) (hm : b.m ≤ 1000000)
  (A : Option Addr) (n c : Nat) (l : List Nat) (hl : l.length = n) (h32 : ∀ x ∈ l, x < 4294967296) (hr : Reads w 1 A n (wordsV l)) (hoff : 0 < n → ∀ o, A = some o → o.block ≠ gb ∧ o.block ≠ g ∧ o.block ≠ b1 ∧ o.block ≠ b2) (hn : n ≤ 1000000000)
include hb hd ho hk hp hs hm hl h32 hr hoff hn
set_option maxRecDepth 100000 in
set_option maxHeartbeats 8000000 in
theorem bput_any : Calls Try.prog 70 #[.pointer (some ⟨gb, 0, none⟩), .slice A n c] w fun e w' => e = .returned (.int .i64 (putB d b l).2.2) ∧ LeftB w w' gb g b1 b2 (putB d b l).1 (putB d b l).2.1 := by
  have hns := ho.ns2
  have hf := hk.fits
  have h3 := hk.three
  obtain ⟨c0, c1, c2, c3, c4⟩ := hb.cells
  have HRO := Lib.hid (broom_any gb g b1 b2 d b w hb hd ho hk)
  have hrm : roomB d b ≤ 4096 := Nat.min_le_right _ _
  have HPB : Hid (putB d b l = if b.opn = false then (d, b, 80) else if (roomB d b : Int) - (b.pn : Int) < (l.length : Int) then (d, b, 81) else putL d b l) := show _ = _ from rfl
  have HO := Lib.hid ho
  have HK := Lib.hid hk
  have HB := Lib.hid hb
  have HD := Lib.hid hd
  have HR := Lib.hid hr
  have HL := Lib.hid hl
  have H32 := Lib.hid h32
  have HOF := Lib.hid hoff
  have HLF : Hid (LeftB w w gb g b1 b2 d b) := ⟨hd, hb, (Keep.refl [] w).mono (by simp)⟩
  have HPS : Hid (b.pn ≤ 100000 ∧ b.s < 4294967296 ∧ b.m ≤ 1000000) := ⟨hp, hs, hm⟩
  clear hb hd ho hk hr hl h32 hoff hs hm
  generalize putB d b l = res at *
  go_enter Try.func70, Try.ntmps70
  cases hop : b.opn with
  | false =>
    rw [hop] at c3
    have HRS : Hid (res = (d, b, 80)) := by show _ = _; rw [HPB.out, if_pos hop]
    go_wp2_with fail
    go_ret
    rw [HRS.out]
    exact ⟨rfl, HLF.out⟩
  | true =>
    rw [hop] at c3
    have hwr : IntKind.i64.wrap ((roomB d b : Int) - (b.pn : Int)) = (roomB d b : Int) - (b.pn : Int) := IntWalk.i64_in _ (by omega)
    have hG : ∀ W, Keep [] w W → W.cell? ⟨gb, 4, none⟩ = some (.int .i64 (b.pn : Int)) ∧ True ∧ True := fun W k => ⟨(HB.out.keep0 k).cells.2.2.2.2, trivial, trivial⟩
    have HRO2 : Hid (∀ W, Keep [] w W → Calls Try.prog 30 #[.pointer (some ⟨gb, 0, none⟩)] W fun e w' => e = .returned (.int .i64 ((roomB d b : Nat) : Int)) ∧ Keep [] w w') := fun W k => (broom_any gb g b1 b2 d b W (HB.out.keep0 k) (HD.out.keep0 k) HO.out HK.out).mono fun e w' h => ⟨h.1, k.then h.2⟩
    have hLn : l.length = n := HL.out
    by_cases hfull : (roomB d b : Int) - (b.pn : Int) < (n : Int)
    · have q0 : decide ((roomB d b : Int) - (b.pn : Int) < (n : Int)) = true := decide_eq_true hfull
      have p0 := eq_true hfull
      have HRS : Hid (res = (d, b, 81)) := by show _ = _; rw [HPB.out, if_neg (by rw [hop]; decide), hLn, if_pos hfull]
      clear HRO hLn
      go_upto_region 3 with fail
      refine wp_region_flow (Keep [] w) rfl (by kernel_rfl) (Keep.refl _ _).drew ?_
      iterate 3 (refine fl_val (v := ?_) (by rfl) ?_ ?_; rotate_left; (intro w' hS; obtain ⟨f0,f1,f2⟩ := hG w' hS; go_simp; with_reducible rfl); simp only [Act.put, List.setIfInBounds_toArray, List.set_cons_zero, List.set_cons_succ])
      refine fl_call (f := 30) (v := .int .i64 ((roomB d b : Nat) : Int)) (by rfl) rfl (by simp only [List.map_toArray, List.map_cons, List.map_nil]; rfl) Try.func30 (by kernel_rfl) (by kernel_rfl) (fun w' hS => ((HRO2.out w' hS))) ?_; simp only [Act.put, List.setIfInBounds_toArray, List.set_cons_zero, List.set_cons_succ]
      iterate 6 (refine fl_val (v := ?_) (by rfl) ?_ ?_; rotate_left; (intro w' hS; obtain ⟨f0,f1,f2⟩ := hG w' hS; go_simp; with_reducible rfl); simp only [Act.put, List.setIfInBounds_toArray, List.set_cons_zero, List.set_cons_succ])
      refine fl_nil ?_
      intro w4 hS
      go_wp2_with fail
      go_ret
      rw [HRS.out]
      exact ⟨rfl, HLF.out.dev.keep0 hS, HLF.out.bank.keep0 hS, hS.mono (by simp)⟩
    · have q0 : decide ((roomB d b : Int) - (b.pn : Int) < (n : Int)) = false := decide_eq_false hfull
      have p0 := eq_false hfull
      have HRS : Hid (res = putL d b l) := by show _ = _; rw [HPB.out, if_neg (by rw [hop]; decide), hLn, if_neg hfull]
      have hn4 : b.pn + n ≤ 4096 := by omega
      clear HRO hLn
      go_upto_region 3 with fail
      refine wp_region_flow (Keep [] w) rfl (by kernel_rfl) (Keep.refl _ _).drew ?_
      iterate 3 (refine fl_val (v := ?_) (by rfl) ?_ ?_; rotate_left; (intro w' hS; obtain ⟨f0,f1,f2⟩ := hG w' hS; go_simp; with_reducible rfl); simp only [Act.put, List.setIfInBounds_toArray, List.set_cons_zero, List.set_cons_succ])
      refine fl_call (f := 30) (v := .int .i64 ((roomB d b : Nat) : Int)) (by rfl) rfl (by simp only [List.map_toArray, List.map_cons, List.map_nil]; rfl) Try.func30 (by kernel_rfl) (by kernel_rfl) (fun w' hS => ((HRO2.out w' hS))) ?_; simp only [Act.put, List.setIfInBounds_toArray, List.set_cons_zero, List.set_cons_succ]
      iterate 6 (refine fl_val (v := ?_) (by rfl) ?_ ?_; rotate_left; (intro w' hS; obtain ⟨f0,f1,f2⟩ := hG w' hS; go_simp; with_reducible rfl); simp only [Act.put, List.setIfInBounds_toArray, List.set_cons_zero, List.set_cons_succ])
      refine fl_nil ?_
      intro w4 hS
      have HS4 := Lib.hid hS
      clear hS hG HRO2 hfull q0 p0 hwr
      go_wp2_with fail
      go_loopw [27] (fun v27 wr => ∃ (k : Nat) (dk : Dev), k ≤ n ∧ v27 = .int .i64 (k : Int) ∧ putL d b (l.take k) = (dk, putsB b (l.take k), 0) ∧ dk.Ok ∧ DimsJ d dk ∧ DevAt wr g b1 b2 dk ∧ BankAt wr gb g (putsB b (l.take k)) ∧ Keep [gb, g, b1, b2] w wr) (fun v27 _ => n - (intOf v27).toNat)
      case atStart => exact ⟨0, d, Nat.zero_le _, rfl, rfl, HO.out, DimsJ.refl d, HD.out.keep0 HS4.out, HB.out.keep0 HS4.out, HS4.out.mono (by simp)⟩
      case round =>
        obtain ⟨k, dk, hk, rfl, hpl, hok, hdm, hdv, hbk, hkp⟩ := hrel
        by_cases hlt : k < n
        · have hkl : k < l.length := by rw [HL.out]; exact hlt
          obtain ⟨bo, oo, rfl, hbo, hcs⟩ := HR.out.addr (by omega)
          have hof := HOF.out (by omega) _ rfl
          have hx : wr.cell? ⟨bo, oo + k, none⟩ = some (.int .u32 (l[k] : Int)) := (hkp.cell (p := ⟨bo, oo + k, none⟩) hbo (by simp only [List.mem_cons, List.not_mem_nil, or_false]; dsimp only at hof; omega)).trans (hcs k _ (by rw [List.getElem?_map, List.getElem?_eq_getElem hkl]; rfl))
          have hx32 := H32.out l[k] (List.getElem_mem hkl)
          have HTK : Hid (l.take (k + 1) = l.take k ++ [l[k]]) := List.take_succ_eq_append_getElem hkl
          have HTD : Hid (∃ r, l = (l.take k ++ [l[k]]) ++ r) := ⟨l.drop (k + 1), by rw [← List.take_succ_eq_append_getElem hkl, List.take_append_drop]⟩
          have hlk : (l.take k).length = k := by rw [List.length_take]; omega
          obtain ⟨bk, hbkk⟩ : ∃ bk, putsB b (l.take k) = bk := ⟨_, rfl⟩
          have hbpn : bk.pn = b.pn + k := by rw [← hbkk]; show b.pn + (l.take k).length = _; rw [hlk]
          have hbs : bk.s < 4294967296 := by rw [← hbkk]; exact foldC_lt _ HPS.out.2.1 (fun y hy => H32.out y (List.mem_of_mem_take hy))
          have hbm : bk.m ≤ 2000000 := by rw [← hbkk]; show b.m + (l.take k).length * 4 ≤ _; rw [hlk]; have := HPS.out.2.2; omega
          have HPN : Hid (putsB b (l.take (k + 1)) = { bk with pn := bk.pn + 1, s := wordC bk.s l[k], m := bk.m + 4 }) := by show _ = _; rw [HTK.out, putsB_snoc, hbkk]
          have hbko : BkOk dk bk := by rw [← hbkk]; exact (⟨HK.out.three, HK.out.fits, HK.out.words⟩ : BkOk d (putsB b (l.take k))).dims hdm
          rw [hbkk] at hpl hbk
          have HAP := Lib.hid (putL_app (l.take k) [l[k]] d b dk bk hpl)
          generalize l[k] = x at *
          rw [putL_one] at HAP
          obtain ⟨e0, e1, e2, e3, e4⟩ := hbk.cells
          have HDA := Lib.hid (bdata_any gb g b1 b2 dk bk wr hbk hdv hok hbko bk.pn (by omega))
          have HPR : Hid (∀ W, Keep [] wr W → Calls Try.prog 67 #[.pointer (some ⟨g, 0, none⟩), .int .i64 ((bk.base + 2 + bk.pn / dk.nw : Nat) : Int), .int .i64 ((bk.pn % dk.nw : Nat) : Int), .int .u32 (x : Int)] W (Leaves W g b1 b2 (progS dk ((bk.base + 2 + bk.pn / dk.nw : Nat) : Int) ((bk.pn % dk.nw : Nat) : Int) x).1 (progS dk ((bk.base + 2 + bk.pn / dk.nw : Nat) : Int) ((bk.pn % dk.nw : Nat) : Int) x).2)) := fun W kk => fprog_any g b1 b2 dk _ _ x W (hdv.keep0 kk) hok hx32
          have HO5 : Hid ((progS dk ((bk.base + 2 + bk.pn / dk.nw : Nat) : Int) ((bk.pn % dk.nw : Nat) : Int) x).1.Ok) := progS_ok hok _ _ x hx32
          have HD5 : Hid (DimsJ d (progS dk ((bk.base + 2 + bk.pn / dk.nw : Nat) : Int) ((bk.pn % dk.nw : Nat) : Int) x).1) := hdm.trans (prog_dims _ _ _ _)
          obtain ⟨d5, e5, hp5⟩ : ∃ d5 e5, progS dk ((bk.base + 2 + bk.pn / dk.nw : Nat) : Int) ((bk.pn % dk.nw : Nat) : Int) x = (d5, e5) := ⟨_, _, rfl⟩
          rw [hp5] at HPR HO5 HD5 HAP
          dsimp only at HAP HPR HO5 HD5
          clear hp5
          generalize bk.base + 2 + bk.pn / dk.nw = ps at *
          generalize bk.pn % dk.nw = pq at *
          have HBK := Lib.hid hbk
          have HDV := Lib.hid hdv
          have HKP := Lib.hid hkp
          have hki : (k : Int) < (n : Int) := by omega
          have hki0 : (0 : Int) ≤ (k : Int) := by omega
          have hwk : IntKind.i64.wrap ((k : Int) + 1) = ((k + 1 : Nat) : Int) := by rw [show (k : Int) + 1 = ((k + 1 : Nat) : Int) by omega]; exact IntWalk.i64_in _ (by omega)
          have hbp4 : bk.pn ≤ 4096 := by omega
          clear hbpn hlk
          have hwp : IntKind.i64.wrap ((bk.pn : Int) + 1) = ((bk.pn + 1 : Nat) : Int) := by rw [show (bk.pn : Int) + 1 = ((bk.pn + 1 : Nat) : Int) by omega]; exact IntWalk.i64_in _ (by omega)
          have hcg : ∀ W, Keep [] wr W → W.cell? ⟨gb, 0, none⟩ = some (.pointer (some ⟨g, 0, none⟩)) := fun W kk => (hbk.keep0 kk).cells.1
          clear hpl hbkk hbko hbk hdv hkp hcs hof hdm hok e1 e2 e3
          go_wp2_with fail
          refine HDA.out.mono ?_
          rintro e w5 ⟨rfl, k5⟩
          have g0 := hcg w5 k5
          go_wp2_with fail
          refine (HPR.out w5 k5).mono ?_
          rintro e w6 ⟨rfl, hd6, k6⟩
          have hn6 := bank_ne (HDV.out.keep0 k5) (HBK.out.keep0 k5)
          have hb6 : BankAt w6 gb g bk := Blk.keep (HBK.out.keep0 k5) k6 (by simp only [List.mem_cons, List.not_mem_nil, or_false]; omega)
          have K6 : Keep [gb, g, b1, b2] w w6 := (HKP.out.then k5).trans k6 (fun y hy _ => by simp only [List.mem_cons, List.not_mem_nil, or_false] at hy ⊢; omega)
          by_cases h5 : e5 = 0
          · subst h5
            rw [if_pos rfl] at HAP
            have hb6' : Blk w6 gb 128 (sumSet (bkCells g bk) 5 bk.s bk.m) := hb6
            have HWD := Lib.hid (cword_any gb 5 128 (bkCells g bk) bk.s bk.m x w6 hbs hx32 (by omega) hb6' (by show 6 < 7; decide))
            have HD6 := Lib.hid hd6
            have HK6 := Lib.hid K6
            clear hd6 k5 k6 hb6 hb6' K6 g0 e0 e4 hcg
            go_wp2_with fail
            refine HWD.out.mono ?_
            rintro e w7 ⟨rfl, hb7, k7⟩
            have hb7' : BankAt w7 gb g { bk with s := wordC bk.s x, m := bk.m + 4 } := hb7
            have g4 : w7.cell? ⟨gb, 4, none⟩ = some (.int .i64 (bk.pn : Int)) := hb7'.cells.2.2.2.2
            have gf := Blk.frozen hb7' 4
            have hgl := Blk.lt hb7'
            have HB8 : Hid (BankAt (w7.setCell ⟨gb, 4, none⟩ (.int .i64 ((bk.pn + 1 : Nat) : Int))) gb g { bk with pn := bk.pn + 1, s := wordC bk.s x, m := bk.m + 4 }) := Blk.set_ hb7' 4 _
            have K8 : Hid (Keep [gb, g, b1, b2] w (w7.setCell ⟨gb, 4, none⟩ (.int .i64 ((bk.pn + 1 : Nat) : Int)))) := (HK6.out.trans k7 (fun y hy _ => by simp only [List.mem_cons, List.not_mem_nil, or_false] at hy ⊢; exact .inl hy)).trans (keep_set _ gb 4 _) (fun y hy _ => by simp only [List.mem_cons, List.not_mem_nil, or_false] at hy ⊢; exact .inl hy)
            have HD8 : Hid (DevAt (w7.setCell ⟨gb, 4, none⟩ (.int .i64 ((bk.pn + 1 : Nat) : Int))) g b1 b2 d5) := (HD6.out.keep k7 (by simp; omega) (by simp; omega) (by simp; omega)).keep (keep_set _ gb 4 _) (by simp; omega) (by simp; omega) (by simp; omega)
            clear hb7 hb7' k7
            go_wp2
            go_roundw
            case rel => exact ⟨k + 1, d5, by omega, by go_num, by rw [HTK.out, HAP.out, ← HTK.out, HPN.out], HO5.out, HD5.out, HD8.out, by rw [HPN.out]; exact HB8.out, K8.out⟩
            case measure => simp [intOf]; omega
          · rw [if_neg h5] at HAP
            have HRS2 : Hid (res = (d5, { bk with opn := false }, e5)) := by
              show _ = _
              rw [HRS.out]
              obtain ⟨r, hr⟩ := HTD.out
              rw [hr]
              exact putL_stop _ r _ _ _ _ _ HAP.out h5
            have q0 : (e5 == 0) = false := beq_eq_false_iff_ne.2 h5
            have q1 : (e5 = 0) = False := eq_false h5
            have q2 : (e5 != 0) = true := bne_iff_ne.2 h5
            have g3 : w6.cell? ⟨gb, 3, none⟩ = some (.bool bk.opn) := hb6.cells.2.2.2.1
            have gf := Blk.frozen hb6 3
            have hgl := Blk.lt hb6
            have HB8 : Hid (BankAt (w6.setCell ⟨gb, 3, none⟩ (.bool false)) gb g { bk with opn := false }) := Blk.set_ hb6 3 _
            have K8 : Hid (Keep [gb, g, b1, b2] w (w6.setCell ⟨gb, 3, none⟩ (.bool false))) := K6.trans (keep_set _ gb 3 _) (fun y hy _ => by simp only [List.mem_cons, List.not_mem_nil, or_false] at hy ⊢; exact .inl hy)
            have HD8 : Hid (DevAt (w6.setCell ⟨gb, 3, none⟩ (.bool false)) g b1 b2 d5) := hd6.keep (keep_set _ gb 3 _) (by simp; omega) (by simp; omega) (by simp; omega)
            clear hb6 hd6 k5 k6 K6 g0 e0 e4 hcg
            go_wp2
            go_ret
            rw [HRS2.out]
            exact ⟨rfl, HD8.out, HB8.out, K8.out⟩
        · have hkn : k = n := by omega
          have HRS2 : Hid (res = (dk, putsB b (l.take k), 0)) := by
            show _ = _
            rw [HRS.out, ← hpl]
            congr 1
            rw [hkn, ← HL.out, List.take_length]
          have HLE : Hid (LeftB w wr gb g b1 b2 dk (putsB b (l.take k))) := ⟨hdv, hbk, hkp⟩
          clear hpl hok hdm hdv hbk hkp
          subst hkn
          go_wp2
          go_ret
          rw [HRS2.out]
          exact ⟨rfl, HLE.out⟩
end
end Go.Proofs.Yteanpgkonhdbpaa

namespace Go.Proofs.Yteanpgkonhdbpaa
open Go.RowKit
attribute [local go_sem] Oper.semAt_some

/-- What a round of header words keeps: pairs and heads. -/
def KpH (W W' : World) : Prop := ∀ x t cs, t = 185 ∨ t = 68 → Blk W x t cs → Blk W' x t cs
theorem KpH.refl (W : World) : KpH W W := fun _ _ _ _ h => h
theorem KpH.trans {A B C : World} (h : KpH A B) (k : KpH B C) : KpH A C := fun x t cs ht hb => k x t cs ht (h x t cs ht hb)
theorem KpH.keep0 {A B : World} (k : Keep [] A B) : KpH A B := fun _ _ _ _ hb => hb.keep0 k
theorem KpH.turn (W : World) (l : Nat) (o o' : Obj) (ho : W.heap[l]? = some o) (hc : o.isCells = false) : KpH W (W.putObj l o') := fun _x _t _cs _ hb => blk_putObj o' hb ho hc
abbrev encHW (x : Nat × Nat) : Array Value := #[.agg #[.int .i64 (x.1 : Int), .int .u32 (x.2 : Int)]]
/-- The two words of a pair, with their places. -/
def pairH (a x : Nat) : List (Nat × Nat) := [(a, x), (a + 1, cplJ x)]
/-- The body may be called at each word of xs, in order. -/
def RoundsH (l : Nat) (xs : List (Nat × Nat)) (J Jx : List (Nat × Nat) → World → Prop) : Prop :=
  ∀ m pre x W1, J pre W1 → pre ++ [x] <+: xs → YieldAt Fence.wide m Try.prog l (encHW x) W1 fun e W' => (e = .returned (.bool true) ∧ J (pre ++ [x]) W' ∧ KpH W1 W') ∨ (e = .returned (.bool false) ∧ Jx (pre ++ [x]) W')
theorem RoundsH.shift {l : Nat} {all xs : List (Nat × Nat)} {J Jx : List (Nat × Nat) → World → Prop} (h : RoundsH l all J Jx) (pre0 : List (Nat × Nat)) (hp : pre0 ++ xs <+: all) : RoundsH l xs (fun ys => J (pre0 ++ ys)) (fun ys => Jx (pre0 ++ ys)) := by
  intro m pre x W1 hj hpre
  obtain ⟨r, hr⟩ := hpre
  refine YieldAt.mono (h m (pre0 ++ pre) x W1 hj ?_) fun e W' hw => ?_
  · rw [List.append_assoc]
    refine List.IsPrefix.trans ⟨r, ?_⟩ hp
    rw [← hr]; simp
  · simp only [List.append_assoc] at hw
    exact hw
/-- All have been handed on, or some, the body having said 'no more'. -/
def HandedH (xs : List (Nat × Nat)) (J Jx : List (Nat × Nat) → World → Prop) (W : World) (e : Ending) (W' : World) : Prop :=
  (e = .returned (.bool true) ∧ J xs W' ∧ KpH W W') ∨ (e = .returned (.bool false) ∧ ∃ pre, pre <+: xs ∧ Jx pre W')

set_option maxRecDepth 100000 in
set_option maxHeartbeats 4000000 in
theorem pairs_hands (l a x B : Nat) (J Jx : List (Nat × Nat) → World → Prop) (W : World) (hJ : AbidesFrom B J) (ha : a ≤ 1000) (hx : x < 4294967296) (hY : RoundsH l (pairH a x) J Jx) (h0 : J [] W) :
    Calls Try.prog 130 #[.func (.yield l) #[] #[], .int .i64 (a : Int), .int .u32 (x : Int)] W (HandedH (pairH a x) J Jx W) := by
  have HO : Hid (∀ W, Calls Try.prog 132 #[.int .u32 (x : Int)] W fun e w' => e = .returned (.agg #[.int .u32 (x : Int), .int .u32 ((cplJ x : Nat) : Int)]) ∧ Keep [] W w') := fun W => pof_any x W hx
  have hA : AggOf Try.prog 185 2 := ⟨by kernel_rfl, by kernel_rfl⟩
  have hwa : IntKind.i64.wrap ((a : Int) + 1) = ((a + 1 : Nat) : Int) := by rw [show (a : Int) + 1 = ((a + 1 : Nat) : Int) by omega]; exact IntWalk.i64_in _ (by omega)
  rw [← callsIn_wide (n := 9)]
  refine callsIn_of_wp Try.func130 rfl trivial ?_ rfl
  simp only [Try.ntmps130, List.size_toArray, List.length_cons, List.length_nil, Nat.reduceAdd, Nat.reduceSub, Array.replicate_succ, Array.replicate_zero, List.push_toArray, List.append_toArray, List.nil_append, List.cons_append]
  gi_wp2_with (first
    | (refine ⟨trivial, ?_⟩; refine (callsIn_wide.2 (HO.out W)).mono ?_; rintro e w1 ⟨rfl, k1⟩)
    | (refine stopIn_store 185 (.tmp 7) (.tmp 9) rfl ?_))
  constructor
  refine wpListIn_store_all rfl 185 (.tmp 7) (.tmp 9) rfl rfl rfl (vs := [.int .u32 (x : Int), .int .u32 ((cplJ x : Nat) : Int)]) hA.2 (Blk.new _ _ _) (by simp [Value.oneCell']) rfl ?_
  intro w2 d2 k2
  have k12 : Keep [] w1 w2 := ((Keep.refl [] w1).alloc _).trans k2 (fun y hy h => by simp only [List.mem_cons, List.not_mem_nil, or_false] at hy; omega)
  have K02 := k1.then k12
  have j2 : J [] w2 := abidesB hJ h0 K02
  have c70 : w2.cell? ⟨w1.heap.size, 0, none⟩ = some (.int .u32 (x : Int)) := d2.cell 0
  have HB7 := Lib.hid d2
  have HK := Lib.hid K02
  obtain ⟨fn, tmps, assign, body, hy, hR⟩ := hY 8 [] (a, x) w2 j2 ⟨[(a + 1, cplJ x)], rfl⟩
  dsimp only [encHW] at hy
  clear k1 k2 k12 K02 j2 d2
  gi_wp2
  first | refine hR.mono ?_ | refine ⟨fun h => (by cases h), hR.mono ?_⟩
  rintro e w3 (⟨rfl, j3, kr⟩ | ⟨rfl, jx⟩)
  · have d3 := kr _ _ _ (.inl rfl) HB7.out
    have c71 : w3.cell? ⟨w1.heap.size, 1, none⟩ = some (.int .u32 ((cplJ x : Nat) : Int)) := d3.cell 1
    clear hy hR
    obtain ⟨fn, tmps, assign, body, hy, hR⟩ := hY 8 [(a, x)] (a + 1, cplJ x) w3 j3 ⟨[], rfl⟩
    dsimp only [encHW] at hy
    rw [show ((a + 1 : Nat) : Int) = (a : Int) + 1 by omega] at hy
    clear d3 c70
    gi_wp2
    first | refine hR.mono ?_ | refine ⟨fun h => (by cases h), hR.mono ?_⟩
    rintro e w4 (⟨rfl, j4, kr4⟩ | ⟨rfl, jx4⟩)
    · gi_wp2
      refine bodyPost_ret (results_tmp rfl _ _ _) rfl ?_
      exact .inl ⟨rfl, j4, ((KpH.keep0 HK.out).trans kr).trans kr4⟩
    · gi_wp2
      refine bodyPost_ret (results_tmp rfl _ _ _) rfl ?_
      exact .inr ⟨rfl, _, List.prefix_refl _, jx4⟩
  · gi_wp2
    refine ⟨fun f h => (by cases h), ?_⟩
    gi_wp2
    refine bodyPost_ret (results_tmp rfl _ _ _) rfl ?_
    exact .inr ⟨rfl, [(a, x)], ⟨[(a + 1, cplJ x)], rfl⟩, jx⟩

/-- The words of a header, without that it is committed. -/
def headW (s n c : Nat) : List (Nat × Nat) := pairH 0 s ++ pairH 2 n ++ pairH 4 c
theorem writes_any (s n c : Nat) (w : World) : Calls Try.prog 109 #[.agg #[.int .u32 (s : Int), .int .u32 (n : Int), .int .u32 (c : Int)]] w fun e w' =>
    e = .returned (.func (.func 129) #[] #[.pointer (some ⟨w.heap.size, 0, none⟩)]) ∧ w.alloc (.cells #[.int .u32 (s : Int), .int .u32 (n : Int), .int .u32 (c : Int)] 68) = w' := by
  go_enter Try.func109, Try.ntmps109
  go_wp2
  go_ret
  exact ⟨rfl, rfl⟩
theorem commits_any (w : World) : Calls Try.prog 110 #[] w fun e w' => e = .returned (.func (.func 131) #[] #[]) ∧ w = w' := by
  go_enter Try.func110, Try.ntmps110
  go_wp2
  go_ret
  exact ⟨rfl, rfl⟩
theorem confirms_any (w : World) : Calls Try.prog 125 #[] w fun e w' => e = .returned (.func (.func 139) #[] #[]) ∧ w = w' := by
  go_enter Try.func125, Try.ntmps125
  go_wp2
  go_ret
  exact ⟨rfl, rfl⟩

set_option maxRecDepth 100000 in
set_option maxHeartbeats 4000000 in
theorem commits1_seq (n : Nat) (w : World) : SeqP Fence.wide n Try.prog 131 #[] encHW KpH (pairH 6 1668246893) w := by
  intro l0 J Jx W hW hJ hJx hY h0
  have hR : RoundsH l0 (pairH 6 1668246893) J Jx := fun m pre y W1 hj hp => yieldAt_any open_wide (hY pre y W1 hj hp)
  have HP : Hid (Calls Try.prog 130 #[.func (.yield l0) #[] #[], .int .i64 6, .int .u32 1668246893] W (HandedH (pairH 6 1668246893) J Jx W)) := pairs_hands l0 6 1668246893 _ J Jx W hJ (by decide) (by decide) hR h0
  refine callsIn_of_wp Try.func131 rfl trivial ?_ rfl
  simp only [Try.ntmps131, List.size_toArray, List.length_cons, List.length_nil, Nat.reduceAdd, Nat.reduceSub, Array.replicate_succ, Array.replicate_zero, List.push_toArray, List.append_toArray, List.nil_append, List.cons_append]
  gi_wp2_with (refine ⟨trivial, fun h => (by cases h), ?_⟩; refine (callsIn_wide.2 HP.out).mono ?_)
  rintro e w' (⟨rfl, hj, _⟩ | ⟨rfl, pre, hp, hx⟩)
  · gi_wp2
    go_end0
    exact ⟨⟨_, rfl⟩, .inl hj⟩
  · gi_wp2
    go_end0
    exact ⟨⟨_, rfl⟩, .inr ⟨pre, hp, hx⟩⟩

set_option maxRecDepth 100000 in
set_option maxHeartbeats 4000000 in
theorem confirms1_seq (n : Nat) (w : World) : SeqP Fence.wide n Try.prog 139 #[] encHW KpH (pairH 8 1668247142) w := by
  intro l0 J Jx W hW hJ hJx hY h0
  have hR : RoundsH l0 (pairH 8 1668247142) J Jx := fun m pre y W1 hj hp => yieldAt_any open_wide (hY pre y W1 hj hp)
  have HP : Hid (Calls Try.prog 130 #[.func (.yield l0) #[] #[], .int .i64 8, .int .u32 1668247142] W (HandedH (pairH 8 1668247142) J Jx W)) := pairs_hands l0 8 1668247142 _ J Jx W hJ (by decide) (by decide) hR h0
  refine callsIn_of_wp Try.func139 rfl trivial ?_ rfl
  simp only [Try.ntmps139, List.size_toArray, List.length_cons, List.length_nil, Nat.reduceAdd, Nat.reduceSub, Array.replicate_succ, Array.replicate_zero, List.push_toArray, List.append_toArray, List.nil_append, List.cons_append]
  gi_wp2_with (refine ⟨trivial, fun h => (by cases h), ?_⟩; refine (callsIn_wide.2 HP.out).mono ?_)
  rintro e w' (⟨rfl, hj, _⟩ | ⟨rfl, pre, hp, hx⟩)
  · gi_wp2
    go_end0
    exact ⟨⟨_, rfl⟩, .inl hj⟩
  · gi_wp2
    go_end0
    exact ⟨⟨_, rfl⟩, .inr ⟨pre, hp, hx⟩⟩

set_option maxRecDepth 100000 in
set_option maxHeartbeats 4000000 in
theorem writes1_seq (n : Nat) (s m c Bh : Nat) (w : World) (hs : s < 4294967296) (hm : m < 4294967296) (hc : c < 4294967296) (hB : Blk w Bh 68 #[.int .u32 (s : Int), .int .u32 (m : Int), .int .u32 (c : Int)]) :
    SeqP Fence.wide n Try.prog 129 #[.pointer (some ⟨Bh, 0, none⟩)] encHW KpH (headW s m c) w := by
  intro l0 J Jx W hW hJ hJx hY h0
  have hk0 : Keep [] w W := keepB hW
  have hR : RoundsH l0 (headW s m c) J Jx := fun m pre y W1 hj hp => yieldAt_any open_wide (hY pre y W1 hj hp)
  have HB := Lib.hid (hB.keep0 hk0)
  have d0 : W.cell? ⟨Bh, 0, none⟩ = some (.int .u32 (s : Int)) := HB.out.cell 0
  have HP : Hid (Calls Try.prog 130 #[.func (.yield l0) #[] #[], .int .i64 0, .int .u32 (s : Int)] W (HandedH (pairH 0 s) J Jx W)) :=
    pairs_hands l0 0 s _ J Jx W hJ (by decide) hs (hR.shift [] ⟨pairH 2 m ++ pairH 4 c, by simp [headW]⟩) h0
  clear hB hW hk0 hY
  refine callsIn_of_wp Try.func129 rfl trivial ?_ rfl
  simp only [Try.ntmps129, List.size_toArray, List.length_cons, List.length_nil, Nat.reduceAdd, Nat.reduceSub, Array.replicate_succ, Array.replicate_zero, List.push_toArray, List.append_toArray, List.nil_append, List.cons_append]
  gi_wp2_with (refine ⟨trivial, fun h => (by cases h), ?_⟩; refine (callsIn_wide.2 HP.out).mono ?_)
  rintro e w1 (⟨rfl, hj, hk⟩ | ⟨rfl, pre, hp, hx⟩)
  · have HB1 := Lib.hid (hk _ _ _ (.inr rfl) HB.out)
    have d1 : w1.cell? ⟨Bh, 1, none⟩ = some (.int .u32 (m : Int)) := HB1.out.cell 1
    have HP2 : Hid (Calls Try.prog 130 #[.func (.yield l0) #[] #[], .int .i64 2, .int .u32 (m : Int)] w1 (HandedH (pairH 2 m) (fun ys => J (pairH 0 s ++ ys)) (fun ys => Jx (pairH 0 s ++ ys)) w1)) :=
      pairs_hands l0 2 m W.heap.size _ _ w1 (fun q X Y row hs hg hr => hJ (pairH 0 s ++ q) X Y row hs hg hr) (by decide) hm (hR.shift (pairH 0 s) ⟨pairH 4 c, by simp [headW]⟩) (by simpa using hj)
    clear hk hj d0
    gi_wp2_with (refine ⟨trivial, fun h => (by cases h), ?_⟩; refine (callsIn_wide.2 HP2.out).mono ?_)
    rintro e w2 (⟨rfl, hj, hk⟩ | ⟨rfl, pre, hp, hx⟩)
    · have HB2 := Lib.hid (hk _ _ _ (.inr rfl) HB1.out)
      have d2 : w2.cell? ⟨Bh, 2, none⟩ = some (.int .u32 (c : Int)) := HB2.out.cell 2
      have HP3 : Hid (Calls Try.prog 130 #[.func (.yield l0) #[] #[], .int .i64 4, .int .u32 (c : Int)] w2 (HandedH (pairH 4 c) (fun ys => J ((pairH 0 s ++ pairH 2 m) ++ ys)) (fun ys => Jx ((pairH 0 s ++ pairH 2 m) ++ ys)) w2)) :=
        pairs_hands l0 4 c W.heap.size _ _ w2 (fun q X Y row hs hg hr => hJ ((pairH 0 s ++ pairH 2 m) ++ q) X Y row hs hg hr) (by decide) hc (hR.shift (pairH 0 s ++ pairH 2 m) ⟨[], by simp [headW]⟩) (by simpa using hj)
      clear hk hj d1
      gi_wp2_with (refine ⟨trivial, fun h => (by cases h), ?_⟩; refine (callsIn_wide.2 HP3.out).mono ?_)
      rintro e w3 (⟨rfl, hj, hk⟩ | ⟨rfl, pre, hp, hx⟩)
      · gi_wp2
        go_end0
        exact ⟨⟨_, rfl⟩, .inl hj⟩
      · gi_wp2
        go_end0
        obtain ⟨r, hr⟩ := hp
        exact ⟨⟨_, rfl⟩, .inr ⟨_, ⟨r, by rw [List.append_assoc, hr]; rfl⟩, hx⟩⟩
    · gi_wp2_with (refine ⟨trivial, ?_⟩; go_at_K)
      go_end0
      obtain ⟨r, hr⟩ := hp
      exact ⟨⟨_, rfl⟩, .inr ⟨_, ⟨r ++ pairH 4 c, by rw [← List.append_assoc, List.append_assoc _ pre, hr]; rfl⟩, hx⟩⟩
  · gi_wp2_with (refine ⟨trivial, ?_⟩; go_at_K)
    go_end0
    obtain ⟨r, hr⟩ := hp
    exact ⟨⟨_, rfl⟩, .inr ⟨pre, ⟨r ++ (pairH 2 m ++ pairH 4 c), by rw [← List.append_assoc, hr]; simp [headW]⟩, hx⟩⟩
end Go.Proofs.Yteanpgkonhdbpaa

namespace Go.Proofs.Yteanpgkonhdbpaa
open Go.RowKit
attribute [local go_sem] Oper.semAt_some

def progsH (d : Dev) (s : Nat) : List (Nat × Nat) → Dev × Int
  | [] => (d, 0)
  | x :: l => if (progS d (s : Int) (x.1 : Int) x.2).2 = 0 then progsH (progS d (s : Int) (x.1 : Int) x.2).1 s l else progS d (s : Int) (x.1 : Int) x.2
theorem progsH_app : ∀ (l r : List (Nat × Nat)) (d d' : Dev) (s : Nat), progsH d s l = (d', 0) → progsH d s (l ++ r) = progsH d' s r
  | [], r, d, d', s, h => by
    have h1 : d = d' := congrArg Prod.fst h
    rw [h1]; rfl
  | x :: l, r, d, d', s, h => by
    rw [progsH] at h
    rw [List.cons_append, progsH]
    split at h
    · rename_i h0
      rw [if_pos h0]
      exact progsH_app l r _ d' s h
    · rename_i h0
      exact absurd (congrArg Prod.snd h) h0
theorem progsH_one (d : Dev) (s : Nat) (x : Nat × Nat) : progsH d s [x] = progS d (s : Int) (x.1 : Int) x.2 := by
  rw [progsH]
  split
  · rename_i h0
    show ((progS d (s : Int) (x.1 : Int) x.2).1, (0 : Int)) = _
    rw [← h0]
  · rfl
theorem progsH_stop : ∀ (l r : List (Nat × Nat)) (d d' : Dev) (s : Nat) (e : Int), progsH d s l = (d', e) → e ≠ 0 → progsH d s (l ++ r) = (d', e)
  | [], r, d, d', s, e, h, he => absurd (congrArg Prod.snd h).symm he
  | x :: l, r, d, d', s, e, h, he => by
    rw [progsH] at h
    rw [List.cons_append, progsH]
    split at h
    · rename_i h0
      rw [if_pos h0]
      exact progsH_stop l r _ d' s e h he
    · rename_i h0
      rw [if_neg h0]
      exact h
theorem progsH_ok : ∀ (l : List (Nat × Nat)) (d : Dev) (s : Nat), d.Ok → (∀ x ∈ l, x.2 < 4294967296) → (progsH d s l).1.Ok ∧ DimsJ d (progsH d s l).1
  | [], d, s, h, _ => ⟨h, DimsJ.refl d⟩
  | x :: l, d, s, h, hl => by
    rw [progsH]
    have h1 := progS_ok h (s : Int) (x.1 : Int) x.2 (hl x (by simp))
    have h2 := prog_dims d (s : Int) (x.1 : Int) x.2
    split
    · obtain ⟨h3, h4⟩ := progsH_ok l _ s h1 (fun y hy => hl y (by simp [hy]))
      exact ⟨h3, h2.trans h4⟩
    · exact ⟨h1, h2⟩

theorem BegAt.own {w : World} {gb g b1 b2 : Nat} {d : Dev} {b : BkS} {e : Int} {B : Nat} (hB : w.heap.size ≤ B) : OwnFrom B (fun (_ : Unit) W => BegAt w W gb g b1 b2 d b e) := by
  intro _ X Y row h hg hr
  exact ⟨⟨blk_own (β := Unit) _ _ (fun _ => _) () X Y row h.dev.dev hg hr, blk_own (β := Unit) _ _ (fun _ => _) () X Y row h.dev.bits hg hr, blk_own (β := Unit) _ _ (fun _ => _) () X Y row h.dev.worn hg hr⟩, blk_own (β := Unit) _ _ (fun _ => _) () X Y row h.bank hg hr, blk_own (β := Unit) _ _ (fun _ => _) () X Y row h.box hg hr, blk_own (β := Unit) _ _ (fun _ => _) () X Y row h.err hg hr, keep_own (β := Unit) hB () X Y row h.keep hg hr⟩

section
variable (gb g b1 b2 : Nat) (d : Dev) (b : BkS) (w : World) (hb : BankAt w gb g b) (hd : DevAt w g b1 b2 d) (ho : d.Ok) (hk : BkOk d b)
include hb hd ho hk
set_option maxRecDepth 100000 in
set_option maxHeartbeats 8000000 in
theorem bwrite_any (f : Nat) (lb : Array Value) (xs : List (Nat × Nat)) (hxs : ∀ x ∈ xs, x.2 < 4294967296) (hseq : ∀ W, Keep [] w W → SeqP Fence.wide 8 Try.prog f lb encHW KpH xs W) (eg : ∀ args W, (callFunc f args).run Try.prog W = .ok (.enter f args) W) :
    Calls Try.prog 108 #[.pointer (some ⟨gb, 0, none⟩), .func (.func f) #[] lb] w fun e w' => e = .returned (.int .i64 (progsH d (b.base + 1) xs).2) ∧ LeftB w w' gb g b1 b2 (progsH d (b.base + 1) xs).1 b := by
  have hns := ho.ns2
  have hf := hk.fits
  have h3 := hk.three
  obtain ⟨W0, hW0⟩ : ∃ W0, (w.alloc (.cells #[.pointer (some ⟨gb, 0, none⟩)] 60)).alloc (.cells #[.int .i64 0] 25) = W0 := ⟨_, rfl⟩
  have K0 : Keep [] w W0 := by rw [← hW0]; exact ((Keep.refl _ w).alloc _).alloc _
  have e1 : Blk W0 w.heap.size 60 #[.pointer (some ⟨gb, 0, none⟩)] := by rw [← hW0]; exact (Blk.new _ _ _).alloc _
  have e2 : Blk W0 (w.heap.size + 1) 25 #[.int .i64 0] := by
    rw [← hW0]; have := Blk.new (w.alloc (.cells #[.pointer (some ⟨gb, 0, none⟩)] 60)) 25 #[.int .i64 0]; rw [World.size_alloc] at this; exact this
  have hsz : W0.heap.size = w.heap.size + 2 := by rw [← hW0]; simp
  have HI0 : Hid (BegAt w W0 gb g b1 b2 d b 0) := ⟨hd.keep0 K0, hb.keep0 K0, e1, e2, K0.mono (by simp)⟩
  have HW0 := Lib.hid hW0
  have HO := Lib.hid ho
  have HX := Lib.hid hxs
  have hgw : gb < w.heap.size ∧ g < w.heap.size ∧ b1 < w.heap.size ∧ b2 < w.heap.size := ⟨Blk.lt hb, hd.dev.lt, hd.bits.lt, hd.worn.lt⟩
  have hsq := hseq W0 K0
  have HR0 : Hid (∃ r, progsH d (b.base + 1) xs = r) := ⟨_, rfl⟩
  have hwb : IntKind.i64.wrap ((b.base : Int) + 1) = ((b.base + 1 : Nat) : Int) := by rw [show (b.base : Int) + 1 = ((b.base + 1 : Nat) : Int) by omega]; exact IntWalk.i64_in _ (by omega)
  have hnn := fun f x y => run_neq_func_nil (P := Try.prog) Try.underlying177 f x y
  have hA2 : AggOf Try.prog 200 2 := ⟨by kernel_rfl, by kernel_rfl⟩
  clear hb hd ho hk K0 e1 e2 hW0 hseq hxs
  rw [← callsIn_wide (n := 9)]
  refine callsIn_of_wp_marks Try.func108 rfl trivial ?_ rfl
  simp only [Try.ntmps108, List.size_toArray, List.length_cons, List.length_nil, Nat.reduceAdd, Nat.reduceSub, Array.replicate_succ, Array.replicate_zero, List.push_toArray, List.append_toArray, List.nil_append, List.cons_append]
  gi_wp2_with (rw [HW0.out])
  clear HW0
  refine wpIn_rangeB (F := Fence.wide) (n := 9) (Lo := fun _ _ => False) (ps := #[8]) rfl (by omega) (gf := f) (lb := lb) rfl trivial eg
    (hsq.toT _) KpH.trans (fun W o o' ho hc => KpH.turn W _ o o' ho hc) (Below.refl _ _) (fun _ => rfl)
    (fun pre W => ∃ d', progsH d (b.base + 1) pre = (d', 0) ∧ d'.Ok ∧ BegAt w W gb g b1 b2 d' b 0)
    (fun c pre W => c = .ret ∧ ∃ d' e, progsH d (b.base + 1) pre = (d', e) ∧ e ≠ 0 ∧ BegAt w W gb g b1 b2 d' b e)
    ?hI ?hIx ⟨d, rfl, HO.out, HI0.out⟩
    (fun x a1 W => ∃ g5 : Nat, Blk W g5 200 #[.int .i64 (x.1 : Int), .int .u32 (x.2 : Int)] ∧ a1 = { tmps := #[.pointer (some ⟨gb, 0, none⟩), .func (.func f) #[] lb, .pointer (some ⟨w.heap.size, 0, none⟩), undef, .pointer (some ⟨w.heap.size + 1, 0, none⟩), .pointer (some ⟨g5, 0, none⟩), undef, .func (.func f) #[] lb, .agg #[.int .i64 (x.1 : Int), .int .u32 (x.2 : Int)], undef, undef, undef, undef, undef, undef, undef, undef, undef, undef, undef, undef, undef, undef, undef, undef, undef], defers := [] })
    ?hPA (fun W W2 _ hk => KpH.keep0 hk) ?assign ?body ?done ?stop
  case hI =>
    refine OwnFrom.toT ?_
    rintro pre X Y row ⟨d', h1, h2, h4⟩ hg hr
    exact ⟨d', h1, h2, BegAt.own (by omega) () X Y row h4 hg hr⟩
  case hIx =>
    intro c
    refine OwnFrom.toT ?_
    rintro pre X Y row ⟨h0, d', e, h1, h2, h4⟩ hg hr
    exact ⟨h0, d', e, h1, h2, BegAt.own (by omega) () X Y row h4 hg hr⟩
  case hPA =>
    rintro x a1 _ X Y row ⟨g5, h1, h2⟩ hg hr
    exact ⟨g5, blk_own (β := Unit) _ _ (fun _ => _) () X Y row h1 hg hr, h2⟩
  case assign =>
    rintro l x W K' hW hK'
    gi_wp2_with (refine stopIn_store 200 (.tmp 5) (.tmp 8) rfl ?_)
    constructor
    refine wpListIn_store_all rfl 200 (.tmp 5) (.tmp 8) rfl rfl rfl (vs := [.int .i64 (x.1 : Int), .int .u32 (x.2 : Int)]) hA2.2 (Blk.new _ _ _) (by simp [Value.oneCell']) rfl ?_
    intro W1 d1 kk1
    have kr : Keep [] W W1 := ((Keep.refl [] W).alloc _).trans kk1 (fun y hy h => by simp only [List.mem_cons, List.not_mem_nil, or_false] at hy; omega)
    gi_wp2
    exact hK' _ _ kr ⟨_, d1, rfl⟩
  case body =>
    rintro l pre x a1 W hW ⟨d', hp, hok, hin⟩ ⟨g5, hb5, rfl⟩ hpre
    have hxm : x.2 < 4294967296 := HX.out x (hpre.subset (by simp))
    have hG : ∀ W', Keep [] W W' → W'.cell? ⟨w.heap.size, 0, none⟩ = some (.pointer (some ⟨gb, 0, none⟩)) ∧ W'.cell? ⟨gb, 0, none⟩ = some (.pointer (some ⟨g, 0, none⟩)) ∧ W'.cell? ⟨gb, 1, none⟩ = some (.int .i64 (b.base : Int)) ∧ W'.cell? ⟨g5, 0, none⟩ = some (.int .i64 (x.1 : Int)) ∧ W'.cell? ⟨g5, 1, none⟩ = some (.int .u32 (x.2 : Int)) := fun W' k => by
      obtain ⟨f1, f2, f3, _⟩ := (hin.keep0 k).facts
      exact ⟨f1, f2, f3, (hb5.keep0 k).cell 0, (hb5.keep0 k).cell 1⟩
    have HPR : Hid (∀ W', Keep [] W W' → Calls Try.prog 67 #[.pointer (some ⟨g, 0, none⟩), .int .i64 ((b.base + 1 : Nat) : Int), .int .i64 (x.1 : Int), .int .u32 (x.2 : Int)] W' (Leaves W' g b1 b2 (progS d' ((b.base + 1 : Nat) : Int) (x.1 : Int) x.2).1 (progS d' ((b.base + 1 : Nat) : Int) (x.1 : Int) x.2).2)) := fun W' k => fprog_any g b1 b2 d' _ _ x.2 W' (hin.keep0 k).dev hok hxm
    have HSN : Hid (progsH d (b.base + 1) (pre ++ [x]) = progS d' ((b.base + 1 : Nat) : Int) (x.1 : Int) x.2) := by show _ = _; rw [progsH_app pre [x] d d' _ hp, progsH_one]
    have HOE : Hid ((progS d' ((b.base + 1 : Nat) : Int) (x.1 : Int) x.2).1.Ok) := progS_ok hok _ _ _ hxm
    have HIN := Lib.hid hin
    obtain ⟨d5, e5, he5⟩ : ∃ d5 e5, progS d' ((b.base + 1 : Nat) : Int) (x.1 : Int) x.2 = (d5, e5) := ⟨_, _, rfl⟩
    rw [he5] at HPR HSN HOE
    dsimp only at HPR HOE
    clear he5 hin hp hok hb5 hpre
    gi_wp2
    refine bjB_start 13 (Keep [] W) (open_round _) rfl rfl (Keep.refl _ _).drew (fun hS hPan => ?_)
    (refine ap_val (v := ?_) 0 rfl (by kernel_rfl) (by kernel_rfl) (by kernel_rfl) (by kernel_rfl) (by rfl) hPan ?_ hS ?_; rotate_left; (intro w' hSw; obtain ⟨f0,f1,f2,f3,f4⟩ := hG w' hSw; go_simp; try with_reducible rfl); simp only [Act.put, List.setIfInBounds_toArray, List.set_cons_zero, List.set_cons_succ])
    (refine ap_val (v := ?_) 1 rfl (by kernel_rfl) (by kernel_rfl) (by kernel_rfl) (by kernel_rfl) (by rfl) hPan ?_ hS ?_; rotate_left; (intro w' hSw; go_simp; try with_reducible rfl); simp only [Act.put, List.setIfInBounds_toArray, List.set_cons_zero, List.set_cons_succ])
    (refine ap_val (v := ?_) 2 rfl (by kernel_rfl) (by kernel_rfl) (by kernel_rfl) (by kernel_rfl) (by rfl) hPan ?_ hS ?_; rotate_left; (intro w' hSw; go_simp; try with_reducible rfl); simp only [Act.put, List.setIfInBounds_toArray, List.set_cons_zero, List.set_cons_succ])
    (refine ap_val (v := ?_) 3 rfl (by kernel_rfl) (by kernel_rfl) (by kernel_rfl) (by kernel_rfl) (by rfl) hPan ?_ hS ?_; rotate_left; (intro w' hSw; obtain ⟨f0,f1,f2,f3,f4⟩ := hG w' hSw; go_simp; try with_reducible rfl); simp only [Act.put, List.setIfInBounds_toArray, List.set_cons_zero, List.set_cons_succ])
    (refine ap_val (v := ?_) 4 rfl (by kernel_rfl) (by kernel_rfl) (by kernel_rfl) (by kernel_rfl) (by rfl) hPan ?_ hS ?_; rotate_left; (intro w' hSw; obtain ⟨f0,f1,f2,f3,f4⟩ := hG w' hSw; go_simp; try with_reducible rfl); simp only [Act.put, List.setIfInBounds_toArray, List.set_cons_zero, List.set_cons_succ])
    (refine ap_val (v := ?_) 5 rfl (by kernel_rfl) (by kernel_rfl) (by kernel_rfl) (by kernel_rfl) (by rfl) hPan ?_ hS ?_; rotate_left; (intro w' hSw; go_simp; try with_reducible rfl); simp only [Act.put, List.setIfInBounds_toArray, List.set_cons_zero, List.set_cons_succ])
    (refine ap_val (v := ?_) 6 rfl (by kernel_rfl) (by kernel_rfl) (by kernel_rfl) (by kernel_rfl) (by rfl) hPan ?_ hS ?_; rotate_left; (intro w' hSw; go_simp; try with_reducible rfl); simp only [Act.put, List.setIfInBounds_toArray, List.set_cons_zero, List.set_cons_succ])
    (refine ap_val (v := ?_) 7 rfl (by kernel_rfl) (by kernel_rfl) (by kernel_rfl) (by kernel_rfl) (by rfl) hPan ?_ hS ?_; rotate_left; (intro w' hSw; obtain ⟨f0,f1,f2,f3,f4⟩ := hG w' hSw; go_simp; try with_reducible rfl); simp only [Act.put, List.setIfInBounds_toArray, List.set_cons_zero, List.set_cons_succ])
    (refine ap_val (v := ?_) 8 rfl (by kernel_rfl) (by kernel_rfl) (by kernel_rfl) (by kernel_rfl) (by rfl) hPan ?_ hS ?_; rotate_left; (intro w' hSw; go_simp; try with_reducible rfl); simp only [Act.put, List.setIfInBounds_toArray, List.set_cons_zero, List.set_cons_succ])
    (refine ap_val (v := ?_) 9 rfl (by kernel_rfl) (by kernel_rfl) (by kernel_rfl) (by kernel_rfl) (by rfl) hPan ?_ hS ?_; rotate_left; (intro w' hSw; go_simp; try with_reducible rfl); simp only [Act.put, List.setIfInBounds_toArray, List.set_cons_zero, List.set_cons_succ])
    (refine ap_val (v := ?_) 10 rfl (by kernel_rfl) (by kernel_rfl) (by kernel_rfl) (by kernel_rfl) (by rfl) hPan ?_ hS ?_; rotate_left; (intro w' hSw; obtain ⟨f0,f1,f2,f3,f4⟩ := hG w' hSw; go_simp; try with_reducible rfl); simp only [Act.put, List.setIfInBounds_toArray, List.set_cons_zero, List.set_cons_succ])
    (refine ap_val (v := ?_) 11 rfl (by kernel_rfl) (by kernel_rfl) (by kernel_rfl) (by kernel_rfl) (by rfl) hPan ?_ hS ?_; rotate_left; (intro w' hSw; go_simp; try with_reducible rfl); simp only [Act.put, List.setIfInBounds_toArray, List.set_cons_zero, List.set_cons_succ])
    (refine ap_val (v := ?_) 12 rfl (by kernel_rfl) (by kernel_rfl) (by kernel_rfl) (by kernel_rfl) (by rfl) hPan ?_ hS ?_; rotate_left; (intro w' hSw; obtain ⟨f0,f1,f2,f3,f4⟩ := hG w' hSw; go_simp; try with_reducible rfl); simp only [Act.put, List.setIfInBounds_toArray, List.set_cons_zero, List.set_cons_succ])
    generalize W.drew = wd at *
    refine ap_one 13 (by kernel_rfl) ?_
    refine op_call (f := 67) (vs := #[.pointer (some ⟨g, 0, none⟩), .int .i64 ((b.base + 1 : Nat) : Int), .int .i64 (x.1 : Int), .int .u32 (x.2 : Int)]) 13 rfl (by kernel_rfl) rfl (by simp only [List.map_toArray, List.map_cons, List.map_nil]; rfl) Try.func67 (by kernel_rfl) (by kernel_rfl) (HPR.out wd hS) ?_
    rintro e w5 ⟨rfl, hd5, k5⟩
    refine ⟨_, rfl, fun h => (by cases h), ?_⟩
    (simp only [Act.put, List.setIfInBounds_toArray, List.set_cons_zero, List.set_cons_succ])
    refine ap_one 14 (by kernel_rfl) ?_
    refine op_run (v := .int .i64 e5) (w' := w5) 14 rfl (by kernel_rfl) (by go_simp) ?_
    refine ⟨fun h => (by cases h), bjB_end (by kernel_rfl) ?_ _⟩
    (simp only [Act.put, List.setIfInBounds_toArray, List.set_cons_zero, List.set_cons_succ])
    have HI5 : Hid (BegAt w w5 gb g b1 b2 d5 b 0) := (HIN.out.keep0 hS).turn hd5 k5
    have hKF : Keep [g, b1, b2] W w5 := (hS.mono (by simp)).trans k5 (fun y hy _ => hy)
    obtain ⟨_, _, _, f4, f5⟩ := HI5.out.facts
    by_cases hz5 : e5 = 0
    · subst hz5
      have hk5 : KpH W w5 := fun y t cs ht hb => (hb.keep0 hS).keep k5 (fun hm => by
        simp only [List.mem_cons, List.not_mem_nil, or_false] at hm
        have hi := HIN.out.keep0 hS
        have hb' := hb.keep0 hS
        rcases hm with rfl | rfl | rfl
        · rcases ht with rfl | rfl <;> exact absurd rfl (Blk.ne_ hb' hi.dev.dev (by decide))
        · rcases ht with rfl | rfl <;> exact absurd rfl (Blk.ne_ hb' hi.dev.bits (by decide))
        · rcases ht with rfl | rfl <;> exact absurd rfl (Blk.ne_ hb' hi.dev.worn (by decide)))
      have HK5 := Lib.hid hk5
      have HKF := Lib.hid hKF
      clear hPan hG HPR hS hd5 k5 hk5 hKF
      gi_wp2
      exact ⟨HKF.out.from (fun y hy => .inl (by simp only [List.mem_cons, List.not_mem_nil, or_false] at hy; omega)), HK5.out, d5, HSN.out, HOE.out, HI5.out⟩
    · have q0 : (e5 == 0) = false := beq_eq_false_iff_ne.2 hz5
      have q1 : (e5 = 0) = False := eq_false hz5
      have q2 : (e5 != 0) = true := bne_iff_ne.2 hz5
      have hk5 : KpH W w5 := fun y t cs ht hb => (hb.keep0 hS).keep k5 (fun hm => by
        simp only [List.mem_cons, List.not_mem_nil, or_false] at hm
        have hi := HIN.out.keep0 hS
        have hb' := hb.keep0 hS
        rcases hm with rfl | rfl | rfl
        · rcases ht with rfl | rfl <;> exact absurd rfl (Blk.ne_ hb' hi.dev.dev (by decide))
        · rcases ht with rfl | rfl <;> exact absurd rfl (Blk.ne_ hb' hi.dev.bits (by decide))
        · rcases ht with rfl | rfl <;> exact absurd rfl (Blk.ne_ hb' hi.dev.worn (by decide)))
      have hkst := keep_set w5 (w.heap.size + 1) 0 (.int .i64 e5)
      have hk6 : KpH W (w5.setCell ⟨w.heap.size + 1, 0, none⟩ (.int .i64 e5)) := hk5.trans (fun y t cs ht hb => hb.keep hkst (fun hm => by
        simp only [List.mem_cons, List.not_mem_nil, or_false] at hm
        subst hm
        rcases ht with rfl | rfl <;> exact absurd rfl (Blk.ne_ hb HI5.out.err (by decide))))
      have HK6 := Lib.hid hk6
      have hKG : Keep [g, b1, b2, w.heap.size + 1] W (w5.setCell ⟨w.heap.size + 1, 0, none⟩ (.int .i64 e5)) := (hKF.mono (by simp)).trans hkst (fun y hy _ => by simp only [List.mem_cons, List.not_mem_nil, or_false] at hy ⊢; omega)
      have HKG := Lib.hid hKG
      clear hPan hG HPR hS hd5 k5 hk5 hKF hkst hk6 hKG
      gi_wp2
      exact ⟨HKG.out.from (fun y hy => .inl (by simp only [List.mem_cons, List.not_mem_nil, or_false] at hy; omega)), HK6.out, rfl, d5, e5, HSN.out, hz5, HI5.out.setErr e5⟩
  case done =>
    rintro D W hD ⟨d', hp, hok, hin⟩ hD2
    have HR : Hid (progsH d (b.base + 1) xs = (d', 0)) := hp
    obtain ⟨_, _, _, f4, f5⟩ := hin.facts
    have hDg : D < W.heap.size := (Array.getElem?_eq_some_iff.1 hD2).1
    have HIN := Lib.hid hin
    clear hin hp
    gi_wp2
    have hE := HIN.out.setErr 0
    have hD4 : (W.setCell ⟨w.heap.size + 1, 0, none⟩ (.int .i64 0)).heap[D]? = some (.deferred (some [])) := ((keep_set W (w.heap.size + 1) 0 (.int .i64 0)).block D hDg (by simp; omega)).trans hD2
    refine leavesM_marksB [D] _ (by simp) (fun D' hD' => by simp at hD'; subst hD'; exact hD4) (fun W' hk => ?_)
    have hm1 : ∀ x t cs, Blk (W.setCell ⟨w.heap.size + 1, 0, none⟩ (.int .i64 0)) x t cs → x ∉ [D] := fun x t cs hb hm => by
      simp only [List.mem_cons, List.not_mem_nil, or_false] at hm
      subst hm
      rw [show (W.setCell ⟨w.heap.size + 1, 0, none⟩ (.int .i64 0)).heap[x]? = _ from hb] at hD4
      cases hD4
    have hz : BegAt w W' gb g b1 b2 d' b 0 := ⟨⟨hE.dev.dev.keep hk (hm1 _ _ _ hE.dev.dev), hE.dev.bits.keep hk (hm1 _ _ _ hE.dev.bits), hE.dev.worn.keep hk (hm1 _ _ _ hE.dev.worn)⟩, Blk.keep hE.bank hk (hm1 _ _ _ hE.bank), hE.box.keep hk (hm1 _ _ _ hE.box), hE.err.keep hk (hm1 _ _ _ hE.err), hE.keep.trans hk (fun y hy hl => by simp only [List.mem_cons, List.not_mem_nil, or_false] at hy; omega)⟩
    have m1 : W'.cell? ⟨w.heap.size + 1, 0, none⟩ = some (.int .i64 0) := hz.facts.2.2.2.1
    refine ⟨.int .i64 0, by simp [results, Try.results108, go_sem, m1], ?_⟩
    rw [HR.out]
    exact ⟨rfl, hz.left⟩
  case stop =>
    rintro D c pre W _ hpre ⟨rfl, d', e, hp, he, hin⟩ hD2
    have HR : Hid (progsH d (b.base + 1) xs = (d', e)) := by
      show _ = _
      obtain ⟨r, hr⟩ := hpre
      have := progsH_stop pre r d d' _ e hp he
      rw [hr] at this
      exact this
    have hE := hin
    gi_wp2
    refine leavesM_marksB [D] W (by simp) (fun D' hD' => by simp at hD'; subst hD'; exact hD2) (fun W' hk => ?_)
    have hm1 : ∀ x t cs, Blk W x t cs → x ∉ [D] := fun x t cs hb hm => by
      simp only [List.mem_cons, List.not_mem_nil, or_false] at hm
      subst hm
      rw [show W.heap[x]? = _ from hb] at hD2
      cases hD2
    have hz : BegAt w W' gb g b1 b2 d' b e := ⟨⟨hE.dev.dev.keep hk (hm1 _ _ _ hE.dev.dev), hE.dev.bits.keep hk (hm1 _ _ _ hE.dev.bits), hE.dev.worn.keep hk (hm1 _ _ _ hE.dev.worn)⟩, Blk.keep hE.bank hk (hm1 _ _ _ hE.bank), hE.box.keep hk (hm1 _ _ _ hE.box), hE.err.keep hk (hm1 _ _ _ hE.err), hE.keep.trans hk (fun y hy hl => by simp only [List.mem_cons, List.not_mem_nil, or_false] at hy; omega)⟩
    have m1 : W'.cell? ⟨w.heap.size + 1, 0, none⟩ = some (.int .i64 e) := hz.facts.2.2.2.1
    refine ⟨.int .i64 e, by simp [results, Try.results108, go_sem, m1], ?_⟩
    rw [HR.out]
    exact ⟨rfl, hz.left⟩
end
end Go.Proofs.Yteanpgkonhdbpaa
