/- An addition to a journal; walked. Condition: the device is one that may be. -/
import Derived.Test.YteanpgkonhdbpaaJrSkip
import Derived.Test.YteanpgkonhdbpaaFlashProg
import Derived.Test.YteanpgkonhdbpaaFlashOk
namespace Go.Proofs.Yteanpgkonhdbpaa
open Go.RowKit

/-- What a call leaves of the device and the journal. -/
structure Left (w w' : World) (gj g b1 b2 : Nat) (d : Dev) (j : JS) : Prop where
  dev : DevAt w' g b1 b2 d
  jr : JrAt w' gj g j
  keep : Keep [gj, g, b1, b2] w w'
theorem dev_ne {w : World} {g b1 b2 gj : Nat} {d : Dev} {j : JS} (hd : DevAt w g b1 b2 d) (hj : JrAt w gj g j) : gj ≠ g ∧ gj ≠ b1 ∧ gj ≠ b2 := ⟨hj.blk.ne_ hd.dev (by decide), hj.blk.ne_ hd.bits (by decide), hj.blk.ne_ hd.worn (by decide)⟩

set_option maxRecDepth 100000 in
set_option maxHeartbeats 2000000 in
theorem turn_any47 (gj g b1 b2 : Nat) (d : Dev) (j : JS) (w : World) (hd : DevAt w g b1 b2 d) (ho : d.Ok) (hj : JrAt w gj g j) (hm : 1 ≤ j.many) (hm2 : j.many ≤ 64) (hb : j.base ≤ 64) (hs : j.sector ≤ 64) :
    Calls Try.prog 66 #[.pointer (some ⟨gj, 0, none⟩)] w fun e w' =>
      e = .returned (.int .i64 (eraseS d ((j.base + (j.sector + 1) % j.many : Nat) : Int)).2) ∧ Left w w' gj g b1 b2 (eraseS d ((j.base + (j.sector + 1) % j.many : Nat) : Int)).1 (if (eraseS d ((j.base + (j.sector + 1) % j.many : Nat) : Int)).2 = 0 then turnJ j else j) := by
  have hcs := hj.cells
  obtain ⟨c0, c1, c2, c3, c4, _⟩ := hcs
  have hne := dev_ne hd hj
  have hw1 : IntKind.i64.wrap ((j.sector : Int) + 1) = (j.sector : Int) + 1 := IntWalk.i64_in _ (by omega)
  have hrem : ((j.sector : Int) + 1).tmod (j.many : Int) = (((j.sector + 1) % j.many : Nat) : Int) := by
    rw [show (j.sector : Int) + 1 = ((j.sector + 1 : Nat) : Int) by omega]
    rfl
  have hlt := Nat.mod_lt (j.sector + 1) (show 0 < j.many by omega)
  have HER : Hid (∀ W, Keep [] w W → Calls Try.prog 100 #[.pointer (some ⟨g, 0, none⟩), .int .i64 ((j.base : Int) + (((j.sector + 1) % j.many : Nat) : Int))] W (Leaves W g b1 b2 (eraseS d ((j.base + (j.sector + 1) % j.many : Nat) : Int)).1 (eraseS d ((j.base + (j.sector + 1) % j.many : Nat) : Int)).2)) := fun W hk => by
    have := ferase_any g b1 b2 d ((j.base + (j.sector + 1) % j.many : Nat) : Int) W (hd.keep0 hk) ho
    rw [show (j.base : Int) + (((j.sector + 1) % j.many : Nat) : Int) = ((j.base + (j.sector + 1) % j.many : Nat) : Int) by omega]
    exact this
  have hnz : ((j.many : Int) == 0) = false := by rw [beq_eq_false_iff_ne]; omega
  have hw2 : IntKind.i64.wrap ((j.base : Int) + (((j.sector + 1) % j.many : Nat) : Int)) = (j.base : Int) + (((j.sector + 1) % j.many : Nat) : Int) := IntWalk.i64_in _ (by omega)
  have HJ := Lib.hid hj
  have hmn : j.many ≠ 0 := by omega
  generalize hns : (j.sector + 1) % j.many = ns at *
  have HNS := Lib.hid hns
  generalize eraseS d ((j.base + ns : Nat) : Int) = r at *
  obtain ⟨d', e'⟩ := r
  dsimp only at HER ⊢
  obtain ⟨jr, hjr⟩ : ∃ jr, (if e' = 0 then turnJ j else j) = jr := ⟨_, rfl⟩
  rw [hjr]
  have HJR := Lib.hid hjr
  clear hd ho hj hns hjr
  have hF : ∀ w', Keep [] w w' → w'.cell? ⟨gj, 0, none⟩ = some (.pointer (some ⟨g, 0, none⟩)) ∧ w'.cell? ⟨gj, 1, none⟩ = some (.int .i64 (j.base : Int)) ∧ w'.cell? ⟨gj, 2, none⟩ = some (.int .i64 (j.many : Int)) ∧ w'.cell? ⟨gj, 3, none⟩ = some (.int .i64 (j.sector : Int)) := fun w' hk => by
    obtain ⟨h0, h1, h2, h3, _⟩ := (HJ.out.keep0 hk).cells
    exact ⟨h0, h1, h2, h3⟩
  clear c0 c1 c2 c3 c4
  go_enter Try.func66, Try.ntmps66
  go_upto_region 1 with fail
  refine wp_region_flow (Keep [] w) rfl (by kernel_rfl) (Keep.refl _ _).drew ?_
  repeat (refine fl_val (v := ?_) (by rfl) ?_ ?_; rotate_left; (intro w' hS; obtain ⟨f0,f1,f2,f3⟩ := hF w' hS; go_simp; with_reducible rfl); simp only [Act.put, List.setIfInBounds_toArray, List.set_cons_zero, List.set_cons_succ])
  refine fl_nil ?_
  intro w1 hS1
  go_upto_region 2 with fail
  refine wp_region_flow_tail 10 (Keep [] w) rfl (by kernel_rfl) hS1.drew ?_
  repeat (refine fl_val (v := ?_) (by rfl) ?_ ?_; rotate_left; (intro w' hS; obtain ⟨f0,f1,f2,f3⟩ := hF w' hS; go_simp; with_reducible rfl); simp only [Act.put, List.setIfInBounds_toArray, List.set_cons_zero, List.set_cons_succ])
  refine fl_nil ?_
  intro w2 hS2
  go_wp2_with fail
  refine (HER.out _ hS2).mono ?_
  rintro e w3 ⟨rfl, hd3, k3⟩
  have hj3 : JrAt w3 gj g j := (HJ.out.keep0 hS2).keep k3 (by simp; exact hne)
  have K3 : Keep [gj, g, b1, b2] w w3 := (hS2.mono (by simp)).trans k3 (fun y hy _ => by simp at hy ⊢; omega)
  have f3 := hj3.blk.frozen 3
  have f4 := hj3.blk.frozen 4
  have c3 := hj3.blk.cell 3
  have c4 := hj3.blk.cell 4
  simp at c3 c4
  by_cases he : e' = 0
  · have hq : (e' != 0) = false := by simp [he]
    have HJX : Hid (jr = turnJ j) := by show _ = _; rw [← HJR.out, if_pos he]
    have HD3 := Lib.hid hd3
    have HJ3 := Lib.hid hj3
    have HK3 := Lib.hid K3
    have HTJ : Hid (turnJ j = { j with sector := ns, at_ := 0 }) := by show _ = _; unfold turnJ; rw [HNS.out]
    have HE := Lib.hid he
    clear hF HER hd3 hj3 k3 K3 hS2 he
    have hb5 := (HJ3.out.blk.set_ 3 (.int .i64 (ns : Int))).set_ 4 (.int .i64 0)
    have ks1 := keep_set w3 gj 3 (.int .i64 (ns : Int))
    have ks2 := keep_set (w3.setCell ⟨gj, 3, none⟩ (.int .i64 (ns : Int))) gj 4 (.int .i64 0)
    have HB5 := Lib.hid hb5
    have HKS := Lib.hid (ks1.trans ks2 (fun y hy _ => hy))
    have HDS : Hid (DevAt ((w3.setCell ⟨gj, 3, none⟩ (.int .i64 (ns : Int))).setCell ⟨gj, 4, none⟩ (.int .i64 0)) g b1 b2 d') := HD3.out.keep HKS.out (by simp; exact Ne.symm hne.1) (by simp; exact Ne.symm hne.2.1) (by simp; exact Ne.symm hne.2.2)
    clear hb5 ks1 ks2
    go_wp2
    go_ret
    rw [HJX.out, HTJ.out]
    exact ⟨by rw [HE.out]; rfl, HDS.out, ⟨HB5.out⟩, HK3.out.trans HKS.out (fun y hy _ => by simp at hy ⊢; exact .inl hy)⟩
  · have hq : (e' != 0) = true := by simp [he]
    have HJX : Hid (jr = j) := by show _ = _; rw [← HJR.out, if_neg he]
    clear hF HER he
    go_wp2
    go_ret
    rw [HJX.out]
    exact ⟨rfl, hd3, hj3, K3⟩

theorem u32_notI {a : Nat} (h : a < 4294967296) : bits .xor .u32 (if IntKind.u32.signed = true then -1 else IntKind.u32.max) (a : Int) = ((cplJ a : Nat) : Int) := u32_not h
set_option maxRecDepth 100000 in
set_option maxHeartbeats 4000000 in
theorem add_any47 (gj g b1 b2 : Nat) (d : Dev) (j : JS) (v : Nat) (w : World) (hd : DevAt w g b1 b2 d) (ho : d.Ok) (hj : JrAt w gj g j) (hv : v < 4294967296) (hm : 1 ≤ j.many) (hm2 : j.many ≤ 64) (hb : j.base ≤ 64) (hs : j.sector ≤ 64) (hat : j.at_ ≤ 1000000) (hn : j.next < 4294967295) :
    Calls Try.prog 20 #[.pointer (some ⟨gj, 0, none⟩), .int .u32 (v : Int)] w fun e w' => e = .returned (.int .i64 (addJ d j v).2.2) ∧ Left w w' gj g b1 b2 (addJ d j v).1 (addJ d j v).2.1 := by
  have hcs := hj.cells
  obtain ⟨_, _, _, _, c4, c5⟩ := hcs
  by_cases hmax : 1073741824 < j.next
  · have hq : decide ((1073741824 : Int) < (j.next : Int)) = true := decide_eq_true (by omega)
    have hqn : (1073741824 < j.next) = True := eq_true hmax
    have HA : Hid (addJ d j v = (d, j, 82)) := by show _ = _; unfold addJ; rw [if_pos hmax]
    rw [HA.out]
    have HD := Lib.hid hd
    have HJ := Lib.hid hj
    clear hd hj ho hmax
    go_enter Try.func20, Try.ntmps20
    go_wp2
    go_ret
    exact ⟨rfl, HD.out, HJ.out, Keep.refl _ _⟩
  · have hq : decide ((1073741824 : Int) < (j.next : Int)) = false := decide_eq_false (by omega)
    have hqn : (1073741824 < j.next) = False := eq_false hmax
    have hne := dev_ne hd hj
    have HA : Hid (addJ d j v = if d.nw / 4 ≤ j.at_ then
        (if (eraseS d ((j.base + (j.sector + 1) % j.many : Nat) : Int)).2 = 0 then fillJ (eraseS d ((j.base + (j.sector + 1) % j.many : Nat) : Int)).1 (turnJ j) v
        else ((eraseS d ((j.base + (j.sector + 1) % j.many : Nat) : Int)).1, j, (eraseS d ((j.base + (j.sector + 1) % j.many : Nat) : Int)).2))
      else fillJ d j v) := by show _ = _; unfold addJ; rw [if_neg hmax]
    obtain ⟨⟨dr, jr, er⟩, hr⟩ : ∃ r, addJ d j v = r := ⟨_, rfl⟩
    rw [hr] at HA ⊢
    dsimp only
    have HSL : Hid (∀ W, Keep [] w W → Calls Try.prog 64 #[.pointer (some ⟨gj, 0, none⟩)] W fun e w' => e = .returned (.int .i64 ((d.nw / 4 : Nat) : Int)) ∧ Keep [] w w') := fun W hk => (slots_any gj g b1 b2 d j W (hd.keep0 hk) ho (hj.keep0 hk)).mono fun e w' he => ⟨he.1, by rw [← he.2]; exact hk⟩
    have hF : ∀ w', Keep [] w w' → w'.cell? ⟨gj, 4, none⟩ = some (.int .i64 (j.at_ : Int)) ∧ True := fun w' hk => ⟨(hj.keep0 hk).cells.2.2.2.2.1, trivial⟩
    have HTU : Hid (∀ W, Keep [] w W → Calls Try.prog 66 #[.pointer (some ⟨gj, 0, none⟩)] W fun e w' =>
      e = .returned (.int .i64 (eraseS d ((j.base + (j.sector + 1) % j.many : Nat) : Int)).2) ∧ Left W w' gj g b1 b2 (eraseS d ((j.base + (j.sector + 1) % j.many : Nat) : Int)).1 (if (eraseS d ((j.base + (j.sector + 1) % j.many : Nat) : Int)).2 = 0 then turnJ j else j)) := fun W hk => turn_any47 gj g b1 b2 d j W (hd.keep0 hk) ho (hj.keep0 hk) hm hm2 hb hs
    have hok1 := eraseS_ok ho ((j.base + (j.sector + 1) % j.many : Nat) : Int)
    have hmod := Nat.mod_lt (j.sector + 1) (show 0 < j.many by omega)
    obtain ⟨⟨d1, e1⟩, hr1⟩ : ∃ r, eraseS d ((j.base + (j.sector + 1) % j.many : Nat) : Int) = r := ⟨_, rfl⟩
    rw [hr1] at HA HTU hok1
    dsimp only at HA HTU hok1
    have HD := Lib.hid hd
    have HJ := Lib.hid hj
    have HO := Lib.hid ho
    have HO1 := Lib.hid hok1
    have hnw := ho.nw2
    have hsl : d.nw / 4 ≤ 256 := by omega
    clear hd hj ho hok1 hr hr1 hmax c4
    generalize hKK : d.nw / 4 = K at *
    go_enter Try.func20, Try.ntmps20
    go_upto_region 3 with fail
    refine wp_region_flow (Keep [] w) rfl (by kernel_rfl) (Keep.refl _ _).drew ?_
    repeat (refine fl_val (v := ?_) (by rfl) ?_ ?_; rotate_left; (intro w' hS; obtain ⟨f0,f1⟩ := hF w' hS; go_simp; with_reducible rfl); simp only [Act.put, List.setIfInBounds_toArray, List.set_cons_zero, List.set_cons_succ])
    refine fl_call (f := 64) (v := .int .i64 (K : Int)) (by rfl) rfl (by simp only [List.map_toArray, List.map_cons, List.map_nil]; rfl) Try.func64 (by kernel_rfl) (by kernel_rfl) (fun w' hS => HSL.out w' hS) ?_; simp only [Act.put, List.setIfInBounds_toArray, List.set_cons_zero, List.set_cons_succ]
    repeat (refine fl_val (v := ?_) (by rfl) ?_ ?_; rotate_left; (intro w' hS; obtain ⟨f0,f1⟩ := hF w' hS; go_simp; with_reducible rfl); simp only [Act.put, List.setIfInBounds_toArray, List.set_cons_zero, List.set_cons_succ])
    refine fl_nil ?_
    intro w1 hS1
    by_cases hge : K ≤ j.at_
    · have q1 : decide ((K : Int) ≤ (j.at_ : Int)) = true := decide_eq_true (by omega)
      have q1n : (K ≤ j.at_) = True := eq_true hge
      rw [if_pos hge] at HA
      go_wp2_with fail
      refine (HTU.out _ hS1).mono ?_
      rintro e w3 ⟨rfl, hL⟩
      by_cases he : e1 = 0
      · have q2 : (e1 != 0) = false := by simp [he]
        rw [if_pos he] at HA hL
        obtain ⟨hLd, hLj, hLk⟩ := hL
        have K3 : Keep [gj, g, b1, b2] w w3 := (hS1.mono (by simp)).trans hLk (fun y hy _ => hy)
        clear he hS1 hF HSL HTU
        have hjc : JrAt w3 gj g (turnJ j) := hLj
        have hdc : DevAt w3 g b1 b2 d1 := hLd
        have hkc : Keep [gj, g, b1, b2] w w3 := K3
        obtain ⟨x0, x1, _, x3, x4, x5⟩ := hjc.cells
        have f4 := hjc.blk.frozen 4
        have hatb : ((turnJ j)).at_ ≤ 1000000 := by show 0 ≤ _; omega
        have hsecb : ((turnJ j)).sector ≤ 64 := by show (j.sector + 1) % j.many ≤ 64; omega
        have hbaseb : ((turnJ j)).base ≤ 64 := hb
        have hnextb : ((turnJ j)).next < 4294967295 := hn
        have HPO : Hid (∀ (d' : Dev) (W' : World) (q u : Nat), u < 4294967296 → d'.Ok → DevAt W' g b1 b2 d' → Calls Try.prog 67 #[.pointer (some ⟨g, 0, none⟩), .int .i64 ((((turnJ j)).base : Int) + (((turnJ j)).sector : Int)), .int .i64 (q : Int), .int .u32 (u : Int)] W' (Leaves W' g b1 b2 (progS d' ((((turnJ j)).base + ((turnJ j)).sector : Nat) : Int) (q : Int) u).1 (progS d' ((((turnJ j)).base + ((turnJ j)).sector : Nat) : Int) (q : Int) u).2)) := fun d' W' q u hu ho' hd' => by
          have := fprog_any g b1 b2 d' ((((turnJ j)).base + ((turnJ j)).sector : Nat) : Int) (q : Int) u W' hd' ho' hu
          rw [show (((turnJ j)).base : Int) + (((turnJ j)).sector : Int) = ((((turnJ j)).base + ((turnJ j)).sector : Nat) : Int) by omega]
          exact this
        have HFJ : Hid ((dr, jr, er) = fillJ d1 (turnJ j) v) := HA
        have HHJ := Lib.hid hjc.blk
        have HHD := Lib.hid hdc
        have HHK := Lib.hid hkc
        have HHO : Hid (Dev.Ok d1) := HO1.out
        clear HA hjc hdc hkc
        generalize (turnJ j) = jc at *
        generalize d1 = dc at *
        go_upto_region 9 with fail
        have hb9 := HHJ.out.set_ 4 (.int .i64 ((jc.at_ : Int) + 1))
        have ks9 := keep_set w3 gj 4 (.int .i64 ((jc.at_ : Int) + 1))
        have hj9 : JrAt (w3.setCell ⟨gj, 4, none⟩ (.int .i64 ((jc.at_ : Int) + 1))) gj g { jc with at_ := jc.at_ + 1 } := ⟨hb9⟩
        have hd9 := HHD.out.keep ks9 (by simp; exact Ne.symm hne.1) (by simp; exact Ne.symm hne.2.1) (by simp; exact Ne.symm hne.2.2)
        have hk9 := HHK.out.trans ks9 (fun y hy _ => by simp at hy ⊢; exact .inl hy)
        clear hb9 ks9 x0 x1 x3 x4 x5 f4 HHJ HHD HHK
        generalize w3.setCell ⟨gj, 4, none⟩ (.int .i64 ((jc.at_ : Int) + 1)) = w9 at *
        have hF9 : ∀ w', Keep [] w9 w' → w'.cell? ⟨gj, 5, none⟩ = some (.int .u32 (jc.next : Int)) ∧ True := fun w' hk => ⟨(hj9.keep0 hk).cells.2.2.2.2.2, trivial⟩
        have HJ9 := Lib.hid hj9
        have HD9 := Lib.hid hd9
        have HK9 := Lib.hid hk9
        clear hj9 hd9 hk9
        refine wp_region_flow (Keep [] w9) rfl (by kernel_rfl) (Keep.refl _ _).drew ?_
        repeat (refine fl_val (v := ?_) (by rfl) ?_ ?_; rotate_left; (intro w' hS; obtain ⟨f0,f1⟩ := hF9 w' hS; go_simp; with_reducible rfl); simp only [Act.put, List.setIfInBounds_toArray, List.set_cons_zero, List.set_cons_succ])
        refine fl_nil ?_
        intro w10 hS10
        have hnx : jc.next < 4294967296 := by omega
        rw [u32_notI hv, u32_notI hnx]
        have HI := Lib.hid (fun (k : Nat) (hk : k < 4) u hu W => run_index_agg (P := Try.prog) (t := 121) (e := 33) (n := 4) (cs := #[.int .u32 (v : Int), .int .u32 ((cplJ v : Nat) : Int), .int .u32 (jc.next : Int), .int .u32 ((cplJ jc.next : Nat) : Int)]) (v := u) Try.underlying121 Try.underlying33 rfl (by kernel_rfl) k hk hu W)
        have HFO : Hid (∀ k, (hk : k < 4) → (#[Value.int .u32 (v : Int), .int .u32 ((cplJ v : Nat) : Int), .int .u32 (jc.next : Int), .int .u32 ((cplJ jc.next : Nat) : Int)] : Array Value)[k]? = some (.int .u32 (((fourJ v jc.next).getD k 0 : Nat) : Int))) := fun k hk => by
          have hk' : k = 0 ∨ k = 1 ∨ k = 2 ∨ k = 3 := by omega
          rcases hk' with rfl | rfl | rfl | rfl <;> rfl
        generalize (#[Value.int .u32 (v : Int), .int .u32 ((cplJ v : Nat) : Int), .int .u32 (jc.next : Int), .int .u32 ((cplJ jc.next : Nat) : Int)] : Array Value) = ca at *
        have HF4 : Hid (∀ k, (hk : k < 4) → (fourJ v jc.next).getD k 0 < 4294967296) := fun k hk => by
          have hk' : k = 0 ∨ k = 1 ∨ k = 2 ∨ k = 3 := by omega
          have c1 : cplJ v < 4294967296 := by unfold cplJ; omega
          have c2 : cplJ jc.next < 4294967296 := by unfold cplJ; omega
          rcases hk' with rfl | rfl | rfl | rfl
          · exact hv
          · exact c1
          · exact hnx
          · exact c2
        have HLN4 : Hid ((fourJ v jc.next).length = 4) := show _ = _ from rfl
        have HFI : Hid (fillJ dc jc v = ((progsJ dc (jc.base + jc.sector) (jc.at_ * 4) (fourJ v jc.next)).1, (if (progsJ dc (jc.base + jc.sector) (jc.at_ * 4) (fourJ v jc.next)).2 = 0 then { jc with at_ := jc.at_ + 1, next := jc.next + 1 } else { jc with at_ := jc.at_ + 1 }), (progsJ dc (jc.base + jc.sector) (jc.at_ * 4) (fourJ v jc.next)).2)) := show _ = _ from rfl
        generalize fourJ v jc.next = four at *
        have hj10 := HJ9.out.keep0 hS10
        have hd10 := HD9.out.keep (F := []) hS10 (by simp) (by simp) (by simp)
        have hk10 := HK9.out.then hS10
        clear hF9 hS10
        go_wp2
        go_loopw [52] (fun v52 wr => ∃ (i : Nat) (di : Dev), i ≤ 4 ∧ v52 = .int .i64 (i : Int) ∧ progsJ dc (jc.base + jc.sector) (jc.at_ * 4) four = progsJ di (jc.base + jc.sector) (jc.at_ * 4 + i) (four.drop i) ∧ di.Ok ∧ DevAt wr g b1 b2 di ∧ JrAt wr gj g { jc with at_ := jc.at_ + 1 } ∧ Keep [gj, g, b1, b2] w wr) (fun v52 _ => 4 - (intOf v52).toNat)
        case atStart => exact ⟨0, dc, Nat.zero_le _, rfl, rfl, HHO.out, hd10, hj10, hk10⟩
        case round =>
          clear hd10 hj10 hk10
          obtain ⟨i, di, hi, rfl, heq, hoi, hdi, hji, hki⟩ := hrel
          have HEQ := Lib.hid heq
          have HOI := Lib.hid hoi
          have HDI := Lib.hid hdi
          have HJI := Lib.hid hji
          have HKI := Lib.hid hki
          by_cases hlt : i < 4
          · have q3 : decide ((i : Int) < 4) = true := decide_eq_true (by omega)
            have q3n : (i < 4) = True := eq_true hlt
            have hlt' : i < four.length := by rw [HLN4.out]; exact hlt
            have hrun := fun W => HI.out i hlt _ (HFO.out i hlt) W
            have hu4 := HF4.out i hlt
            have hstep : progsJ dc (jc.base + jc.sector) (jc.at_ * 4) four = if (progS di ((jc.base + jc.sector : Nat) : Int) ((jc.at_ * 4 + i : Nat) : Int) (four.getD i 0)).2 ≠ 0 then progS di ((jc.base + jc.sector : Nat) : Int) ((jc.at_ * 4 + i : Nat) : Int) (four.getD i 0) else progsJ (progS di ((jc.base + jc.sector : Nat) : Int) ((jc.at_ * 4 + i : Nat) : Int) (four.getD i 0)).1 (jc.base + jc.sector) (jc.at_ * 4 + (i + 1)) (four.drop (i + 1)) := by
              have hgd : four[i]'hlt' = four.getD i 0 := by simp [List.getD, hlt']
              rw [heq, List.drop_eq_getElem_cons hlt', hgd]
              rfl
            have HSTEP := Lib.hid hstep
            have hfi : ∀ w', Keep [] wr w' → w'.cell? ⟨gj, 0, none⟩ = some (.pointer (some ⟨g, 0, none⟩)) ∧ w'.cell? ⟨gj, 1, none⟩ = some (.int .i64 (jc.base : Int)) ∧ w'.cell? ⟨gj, 3, none⟩ = some (.int .i64 (jc.sector : Int)) := fun w' hk => by
              obtain ⟨h0, h1, _, h3, _⟩ := (hji.keep0 hk).cells
              exact ⟨h0, h1, h3⟩
            have HPG : Hid (∀ W, Keep [] wr W → Calls Try.prog 67 #[.pointer (some ⟨g, 0, none⟩), .int .i64 ((jc.base : Int) + (jc.sector : Int)), .int .i64 ((jc.at_ : Int) * 4 + (i : Int)), .int .u32 ((four.getD i 0 : Nat) : Int)] W (Leaves W g b1 b2 (progS di ((jc.base + jc.sector : Nat) : Int) ((jc.at_ * 4 + i : Nat) : Int) (four.getD i 0)).1 (progS di ((jc.base + jc.sector : Nat) : Int) ((jc.at_ * 4 + i : Nat) : Int) (four.getD i 0)).2)) := fun W hk => by
              have := HPO.out di W (jc.at_ * 4 + i) (four.getD i 0) hu4 hoi (hdi.keep hk (by simp) (by simp) (by simp))
              rw [show ((jc.at_ * 4 + i : Nat) : Int) = (jc.at_ : Int) * 4 + (i : Int) by omega] at this ⊢
              exact this
            have hok2 := progS_ok hoi ((jc.base + jc.sector : Nat) : Int) ((jc.at_ * 4 + i : Nat) : Int) _ hu4
            have HOK2 := Lib.hid hok2
            have hww : IntKind.i64.wrap ((jc.at_ : Int) * 4 + (i : Int)) = (jc.at_ : Int) * 4 + (i : Int) := IntWalk.i64_in _ (by omega)
            clear hstep heq hoi hdi hji hki hok2 hu4
            generalize four.getD i 0 = u at *
            generalize progS di ((jc.base + jc.sector : Nat) : Int) ((jc.at_ * 4 + i : Nat) : Int) u = rp at *
            obtain ⟨d2, e2⟩ := rp
            dsimp only at HSTEP HPG HOK2
            go_upto_region 12 with fail
            refine wp_region_flow_tail 17 (Keep [] wr) rfl (by kernel_rfl) (Keep.refl _ _).drew ?_
            repeat (refine fl_val (v := ?_) (by rfl) ?_ ?_; rotate_left; (intro w' hS; obtain ⟨f0,f1,f3⟩ := hfi w' hS; go_simp; with_reducible rfl); simp only [Act.put, List.setIfInBounds_toArray, List.set_cons_zero, List.set_cons_succ])
            refine fl_nil ?_
            intro w11 hS11
            go_wp2_with fail
            refine (HPG.out _ hS11).mono ?_
            rintro e w12 ⟨rfl, hd12, k12⟩
            have hj12 : JrAt w12 gj g { jc with at_ := jc.at_ + 1 } := (HJI.out.keep0 hS11).keep k12 (by simp; exact hne)
            have K12 : Keep [gj, g, b1, b2] w w12 := (HKI.out.then hS11).trans k12 (fun y hy _ => by simp at hy ⊢; omega)
            by_cases he2 : e2 = 0
            · have q4 : (e2 != 0) = false := by simp [he2]
              have HE2 : Hid (progsJ dc (jc.base + jc.sector) (jc.at_ * 4) four = progsJ d2 (jc.base + jc.sector) (jc.at_ * 4 + (i + 1)) (four.drop (i + 1))) := by
                show _ = _
                rw [HSTEP.out, if_neg (fun h => h he2)]
              have HJ12 := Lib.hid hj12
              have HD12 := Lib.hid hd12
              have HK12 := Lib.hid K12
              clear he2 HSTEP HPG hfi hrun hj12 hd12 K12 k12 hS11
              go_wp2
              go_roundw
              case rel => exact ⟨i + 1, d2, by omega, by go_num, HE2.out, HOK2.out, HD12.out, HJ12.out, HK12.out⟩
              case measure => simp [intOf]; omega
            · have q4 : (e2 != 0) = true := by simp [he2]
              have HE2 : Hid ((dr, jr, er) = (d2, { jc with at_ := jc.at_ + 1 }, e2)) := by
                show _ = _
                rw [HFJ.out, HFI.out, HSTEP.out, if_pos he2, if_neg he2]
              have HJ12 := Lib.hid hj12
              have HD12 := Lib.hid hd12
              have HK12 := Lib.hid K12
              clear he2 HSTEP HPG hfi hrun hj12 hd12 K12 k12 hS11 HFJ HFI
              go_wp2
              go_ret
              have h9 := HE2.out
              cases h9
              exact ⟨rfl, HD12.out, HJ12.out, HK12.out⟩
          · have q3 : decide ((i : Int) < 4) = false := decide_eq_false (by omega)
            have q3n : (i < 4) = False := eq_false hlt
            have HE2 : Hid ((dr, jr, er) = (di, { jc with at_ := jc.at_ + 1, next := jc.next + 1 }, 0)) := by
              show _ = _
              rw [HFJ.out, HFI.out, HEQ.out, List.drop_eq_nil_iff.2 (by rw [HLN4.out]; omega)]
              rfl
            have c5i := hji.blk.cell 5
            have f5i := hji.blk.frozen 5
            simp at c5i
            have hw9 : IntKind.u32.wrap ((jc.next : Int) + 1) = (jc.next : Int) + 1 := by show ((jc.next : Int) + 1) % 4294967296 = _; omega
            have hb13 := hji.blk.set_ 5 (.int .u32 ((jc.next : Int) + 1))
            have ks13 := keep_set wr gj 5 (.int .u32 ((jc.next : Int) + 1))
            have HB13 := Lib.hid hb13
            have HKS : Hid (Keep [gj] wr (wr.setCell ⟨gj, 5, none⟩ (.int .u32 ((jc.next : Int) + 1)))) := ks13
            have HD13 : Hid (DevAt (wr.setCell ⟨gj, 5, none⟩ (.int .u32 ((jc.next : Int) + 1))) g b1 b2 di) := hdi.keep ks13 (by simp; exact Ne.symm hne.1) (by simp; exact Ne.symm hne.2.1) (by simp; exact Ne.symm hne.2.2)
            clear hb13 ks13 HFJ HFI heq hoi hdi hji hki hlt
            go_wp2
            go_ret
            have h9 := HE2.out
            cases h9
            exact ⟨rfl, HD13.out, ⟨HB13.out⟩, HKI.out.trans HKS.out (fun y hy _ => by simp at hy ⊢; exact .inl hy)⟩
      · have q2 : (e1 != 0) = true := by simp [he]
        rw [if_neg he] at HA hL
        obtain ⟨hLd, hLj, hLk⟩ := hL
        have HE : Hid ((dr, jr, er) = (d1, j, e1)) := HA.out
        have K3 : Keep [gj, g, b1, b2] w w3 := (hS1.mono (by simp)).trans hLk (fun y hy _ => hy)
        clear he hS1 hF HSL HTU HA
        go_wp2
        go_ret
        have := HE.out
        cases this
        exact ⟨rfl, hLd, hLj, K3⟩
    · have q1 : decide ((K : Int) ≤ (j.at_ : Int)) = false := decide_eq_false (by omega)
      have q1n : (K ≤ j.at_) = False := eq_false hge
      rw [if_neg hge] at HA
      have hj1 := HJ.out.keep0 hS1
      have hd1 := HD.out.keep0 hS1
      clear hF HSL HTU
      first
        | rw [q1]
        | rw [show decide (K ≤ j.at_) = false from decide_eq_false hge]
      have hjc : JrAt w1 gj g j := hj1
      have hdc : DevAt w1 g b1 b2 d := hd1
      have hkc : Keep [gj, g, b1, b2] w w1 := hS1.mono (by simp)
      obtain ⟨x0, x1, _, x3, x4, x5⟩ := hjc.cells
      have f4 := hjc.blk.frozen 4
      have hatb : (j).at_ ≤ 1000000 := by omega
      have hsecb : (j).sector ≤ 64 := by omega
      have hbaseb : (j).base ≤ 64 := hb
      have hnextb : (j).next < 4294967295 := hn
      have HPO : Hid (∀ (d' : Dev) (W' : World) (q u : Nat), u < 4294967296 → d'.Ok → DevAt W' g b1 b2 d' → Calls Try.prog 67 #[.pointer (some ⟨g, 0, none⟩), .int .i64 (((j).base : Int) + ((j).sector : Int)), .int .i64 (q : Int), .int .u32 (u : Int)] W' (Leaves W' g b1 b2 (progS d' (((j).base + (j).sector : Nat) : Int) (q : Int) u).1 (progS d' (((j).base + (j).sector : Nat) : Int) (q : Int) u).2)) := fun d' W' q u hu ho' hd' => by
        have := fprog_any g b1 b2 d' (((j).base + (j).sector : Nat) : Int) (q : Int) u W' hd' ho' hu
        rw [show ((j).base : Int) + ((j).sector : Int) = (((j).base + (j).sector : Nat) : Int) by omega]
        exact this
      have HFJ : Hid ((dr, jr, er) = fillJ d j v) := HA
      have HHJ := Lib.hid hjc.blk
      have HHD := Lib.hid hdc
      have HHK := Lib.hid hkc
      have HHO : Hid (Dev.Ok d) := HO.out
      clear HA hjc hdc hkc
      generalize j = jc at *
      generalize d = dc at *
      go_upto_region 9 with fail
      have hb9 := HHJ.out.set_ 4 (.int .i64 ((jc.at_ : Int) + 1))
      have ks9 := keep_set w1 gj 4 (.int .i64 ((jc.at_ : Int) + 1))
      have hj9 : JrAt (w1.setCell ⟨gj, 4, none⟩ (.int .i64 ((jc.at_ : Int) + 1))) gj g { jc with at_ := jc.at_ + 1 } := ⟨hb9⟩
      have hd9 := HHD.out.keep ks9 (by simp; exact Ne.symm hne.1) (by simp; exact Ne.symm hne.2.1) (by simp; exact Ne.symm hne.2.2)
      have hk9 := HHK.out.trans ks9 (fun y hy _ => by simp at hy ⊢; exact .inl hy)
      clear hb9 ks9 x0 x1 x3 x4 x5 f4 HHJ HHD HHK
      generalize w1.setCell ⟨gj, 4, none⟩ (.int .i64 ((jc.at_ : Int) + 1)) = w9 at *
      have hF9 : ∀ w', Keep [] w9 w' → w'.cell? ⟨gj, 5, none⟩ = some (.int .u32 (jc.next : Int)) ∧ True := fun w' hk => ⟨(hj9.keep0 hk).cells.2.2.2.2.2, trivial⟩
      have HJ9 := Lib.hid hj9
      have HD9 := Lib.hid hd9
      have HK9 := Lib.hid hk9
      clear hj9 hd9 hk9
      refine wp_region_flow (Keep [] w9) rfl (by kernel_rfl) (Keep.refl _ _).drew ?_
      repeat (refine fl_val (v := ?_) (by rfl) ?_ ?_; rotate_left; (intro w' hS; obtain ⟨f0,f1⟩ := hF9 w' hS; go_simp; with_reducible rfl); simp only [Act.put, List.setIfInBounds_toArray, List.set_cons_zero, List.set_cons_succ])
      refine fl_nil ?_
      intro w10 hS10
      have hnx : jc.next < 4294967296 := by omega
      rw [u32_notI hv, u32_notI hnx]
      have HI := Lib.hid (fun (k : Nat) (hk : k < 4) u hu W => run_index_agg (P := Try.prog) (t := 121) (e := 33) (n := 4) (cs := #[.int .u32 (v : Int), .int .u32 ((cplJ v : Nat) : Int), .int .u32 (jc.next : Int), .int .u32 ((cplJ jc.next : Nat) : Int)]) (v := u) Try.underlying121 Try.underlying33 rfl (by kernel_rfl) k hk hu W)
      have HFO : Hid (∀ k, (hk : k < 4) → (#[Value.int .u32 (v : Int), .int .u32 ((cplJ v : Nat) : Int), .int .u32 (jc.next : Int), .int .u32 ((cplJ jc.next : Nat) : Int)] : Array Value)[k]? = some (.int .u32 (((fourJ v jc.next).getD k 0 : Nat) : Int))) := fun k hk => by
        have hk' : k = 0 ∨ k = 1 ∨ k = 2 ∨ k = 3 := by omega
        rcases hk' with rfl | rfl | rfl | rfl <;> rfl
      generalize (#[Value.int .u32 (v : Int), .int .u32 ((cplJ v : Nat) : Int), .int .u32 (jc.next : Int), .int .u32 ((cplJ jc.next : Nat) : Int)] : Array Value) = ca at *
      have HF4 : Hid (∀ k, (hk : k < 4) → (fourJ v jc.next).getD k 0 < 4294967296) := fun k hk => by
        have hk' : k = 0 ∨ k = 1 ∨ k = 2 ∨ k = 3 := by omega
        have c1 : cplJ v < 4294967296 := by unfold cplJ; omega
        have c2 : cplJ jc.next < 4294967296 := by unfold cplJ; omega
        rcases hk' with rfl | rfl | rfl | rfl
        · exact hv
        · exact c1
        · exact hnx
        · exact c2
      have HLN4 : Hid ((fourJ v jc.next).length = 4) := show _ = _ from rfl
      have HFI : Hid (fillJ dc jc v = ((progsJ dc (jc.base + jc.sector) (jc.at_ * 4) (fourJ v jc.next)).1, (if (progsJ dc (jc.base + jc.sector) (jc.at_ * 4) (fourJ v jc.next)).2 = 0 then { jc with at_ := jc.at_ + 1, next := jc.next + 1 } else { jc with at_ := jc.at_ + 1 }), (progsJ dc (jc.base + jc.sector) (jc.at_ * 4) (fourJ v jc.next)).2)) := show _ = _ from rfl
      generalize fourJ v jc.next = four at *
      have hj10 := HJ9.out.keep0 hS10
      have hd10 := HD9.out.keep (F := []) hS10 (by simp) (by simp) (by simp)
      have hk10 := HK9.out.then hS10
      clear hF9 hS10
      go_wp2
      go_loopw [52] (fun v52 wr => ∃ (i : Nat) (di : Dev), i ≤ 4 ∧ v52 = .int .i64 (i : Int) ∧ progsJ dc (jc.base + jc.sector) (jc.at_ * 4) four = progsJ di (jc.base + jc.sector) (jc.at_ * 4 + i) (four.drop i) ∧ di.Ok ∧ DevAt wr g b1 b2 di ∧ JrAt wr gj g { jc with at_ := jc.at_ + 1 } ∧ Keep [gj, g, b1, b2] w wr) (fun v52 _ => 4 - (intOf v52).toNat)
      case atStart => exact ⟨0, dc, Nat.zero_le _, rfl, rfl, HHO.out, hd10, hj10, hk10⟩
      case round =>
        clear hd10 hj10 hk10
        obtain ⟨i, di, hi, rfl, heq, hoi, hdi, hji, hki⟩ := hrel
        have HEQ := Lib.hid heq
        have HOI := Lib.hid hoi
        have HDI := Lib.hid hdi
        have HJI := Lib.hid hji
        have HKI := Lib.hid hki
        by_cases hlt : i < 4
        · have q3 : decide ((i : Int) < 4) = true := decide_eq_true (by omega)
          have q3n : (i < 4) = True := eq_true hlt
          have hlt' : i < four.length := by rw [HLN4.out]; exact hlt
          have hrun := fun W => HI.out i hlt _ (HFO.out i hlt) W
          have hu4 := HF4.out i hlt
          have hstep : progsJ dc (jc.base + jc.sector) (jc.at_ * 4) four = if (progS di ((jc.base + jc.sector : Nat) : Int) ((jc.at_ * 4 + i : Nat) : Int) (four.getD i 0)).2 ≠ 0 then progS di ((jc.base + jc.sector : Nat) : Int) ((jc.at_ * 4 + i : Nat) : Int) (four.getD i 0) else progsJ (progS di ((jc.base + jc.sector : Nat) : Int) ((jc.at_ * 4 + i : Nat) : Int) (four.getD i 0)).1 (jc.base + jc.sector) (jc.at_ * 4 + (i + 1)) (four.drop (i + 1)) := by
            have hgd : four[i]'hlt' = four.getD i 0 := by simp [List.getD, hlt']
            rw [heq, List.drop_eq_getElem_cons hlt', hgd]
            rfl
          have HSTEP := Lib.hid hstep
          have hfi : ∀ w', Keep [] wr w' → w'.cell? ⟨gj, 0, none⟩ = some (.pointer (some ⟨g, 0, none⟩)) ∧ w'.cell? ⟨gj, 1, none⟩ = some (.int .i64 (jc.base : Int)) ∧ w'.cell? ⟨gj, 3, none⟩ = some (.int .i64 (jc.sector : Int)) := fun w' hk => by
            obtain ⟨h0, h1, _, h3, _⟩ := (hji.keep0 hk).cells
            exact ⟨h0, h1, h3⟩
          have HPG : Hid (∀ W, Keep [] wr W → Calls Try.prog 67 #[.pointer (some ⟨g, 0, none⟩), .int .i64 ((jc.base : Int) + (jc.sector : Int)), .int .i64 ((jc.at_ : Int) * 4 + (i : Int)), .int .u32 ((four.getD i 0 : Nat) : Int)] W (Leaves W g b1 b2 (progS di ((jc.base + jc.sector : Nat) : Int) ((jc.at_ * 4 + i : Nat) : Int) (four.getD i 0)).1 (progS di ((jc.base + jc.sector : Nat) : Int) ((jc.at_ * 4 + i : Nat) : Int) (four.getD i 0)).2)) := fun W hk => by
            have := HPO.out di W (jc.at_ * 4 + i) (four.getD i 0) hu4 hoi (hdi.keep hk (by simp) (by simp) (by simp))
            rw [show ((jc.at_ * 4 + i : Nat) : Int) = (jc.at_ : Int) * 4 + (i : Int) by omega] at this ⊢
            exact this
          have hok2 := progS_ok hoi ((jc.base + jc.sector : Nat) : Int) ((jc.at_ * 4 + i : Nat) : Int) _ hu4
          have HOK2 := Lib.hid hok2
          have hww : IntKind.i64.wrap ((jc.at_ : Int) * 4 + (i : Int)) = (jc.at_ : Int) * 4 + (i : Int) := IntWalk.i64_in _ (by omega)
          clear hstep heq hoi hdi hji hki hok2 hu4
          generalize four.getD i 0 = u at *
          generalize progS di ((jc.base + jc.sector : Nat) : Int) ((jc.at_ * 4 + i : Nat) : Int) u = rp at *
          obtain ⟨d2, e2⟩ := rp
          dsimp only at HSTEP HPG HOK2
          go_upto_region 12 with fail
          refine wp_region_flow_tail 17 (Keep [] wr) rfl (by kernel_rfl) (Keep.refl _ _).drew ?_
          repeat (refine fl_val (v := ?_) (by rfl) ?_ ?_; rotate_left; (intro w' hS; obtain ⟨f0,f1,f3⟩ := hfi w' hS; go_simp; with_reducible rfl); simp only [Act.put, List.setIfInBounds_toArray, List.set_cons_zero, List.set_cons_succ])
          refine fl_nil ?_
          intro w11 hS11
          go_wp2_with fail
          refine (HPG.out _ hS11).mono ?_
          rintro e w12 ⟨rfl, hd12, k12⟩
          have hj12 : JrAt w12 gj g { jc with at_ := jc.at_ + 1 } := (HJI.out.keep0 hS11).keep k12 (by simp; exact hne)
          have K12 : Keep [gj, g, b1, b2] w w12 := (HKI.out.then hS11).trans k12 (fun y hy _ => by simp at hy ⊢; omega)
          by_cases he2 : e2 = 0
          · have q4 : (e2 != 0) = false := by simp [he2]
            have HE2 : Hid (progsJ dc (jc.base + jc.sector) (jc.at_ * 4) four = progsJ d2 (jc.base + jc.sector) (jc.at_ * 4 + (i + 1)) (four.drop (i + 1))) := by
              show _ = _
              rw [HSTEP.out, if_neg (fun h => h he2)]
            have HJ12 := Lib.hid hj12
            have HD12 := Lib.hid hd12
            have HK12 := Lib.hid K12
            clear he2 HSTEP HPG hfi hrun hj12 hd12 K12 k12 hS11
            go_wp2
            go_roundw
            case rel => exact ⟨i + 1, d2, by omega, by go_num, HE2.out, HOK2.out, HD12.out, HJ12.out, HK12.out⟩
            case measure => simp [intOf]; omega
          · have q4 : (e2 != 0) = true := by simp [he2]
            have HE2 : Hid ((dr, jr, er) = (d2, { jc with at_ := jc.at_ + 1 }, e2)) := by
              show _ = _
              rw [HFJ.out, HFI.out, HSTEP.out, if_pos he2, if_neg he2]
            have HJ12 := Lib.hid hj12
            have HD12 := Lib.hid hd12
            have HK12 := Lib.hid K12
            clear he2 HSTEP HPG hfi hrun hj12 hd12 K12 k12 hS11 HFJ HFI
            go_wp2
            go_ret
            have h9 := HE2.out
            cases h9
            exact ⟨rfl, HD12.out, HJ12.out, HK12.out⟩
        · have q3 : decide ((i : Int) < 4) = false := decide_eq_false (by omega)
          have q3n : (i < 4) = False := eq_false hlt
          have HE2 : Hid ((dr, jr, er) = (di, { jc with at_ := jc.at_ + 1, next := jc.next + 1 }, 0)) := by
            show _ = _
            rw [HFJ.out, HFI.out, HEQ.out, List.drop_eq_nil_iff.2 (by rw [HLN4.out]; omega)]
            rfl
          have c5i := hji.blk.cell 5
          have f5i := hji.blk.frozen 5
          simp at c5i
          have hw9 : IntKind.u32.wrap ((jc.next : Int) + 1) = (jc.next : Int) + 1 := by show ((jc.next : Int) + 1) % 4294967296 = _; omega
          have hb13 := hji.blk.set_ 5 (.int .u32 ((jc.next : Int) + 1))
          have ks13 := keep_set wr gj 5 (.int .u32 ((jc.next : Int) + 1))
          have HB13 := Lib.hid hb13
          have HKS : Hid (Keep [gj] wr (wr.setCell ⟨gj, 5, none⟩ (.int .u32 ((jc.next : Int) + 1)))) := ks13
          have HD13 : Hid (DevAt (wr.setCell ⟨gj, 5, none⟩ (.int .u32 ((jc.next : Int) + 1))) g b1 b2 di) := hdi.keep ks13 (by simp; exact Ne.symm hne.1) (by simp; exact Ne.symm hne.2.1) (by simp; exact Ne.symm hne.2.2)
          clear hb13 ks13 HFJ HFI heq hoi hdi hji hki hlt
          go_wp2
          go_ret
          have h9 := HE2.out
          cases h9
          exact ⟨rfl, HD13.out, ⟨HB13.out⟩, HKI.out.trans HKS.out (fun y hy _ => by simp at hy ⊢; exact .inl hy)⟩
end Go.Proofs.Yteanpgkonhdbpaa

