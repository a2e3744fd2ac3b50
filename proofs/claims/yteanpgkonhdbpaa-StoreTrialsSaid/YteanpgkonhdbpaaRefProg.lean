/- ref06.Program, walked. -/
import Derived.Test.YteanpgkonhdbpaaRefNew
import Derived.Test.YteanpgkonhdbpaaFlashSect
import Derived.Test.YteanpgkonhdbpaaReg
namespace Go.Proofs.Yteanpgkonhdbpaa
open Go.RowKit

/-- A device's value whose slices are owned from block base on, apart from the blocks of F. -/
structure ROwn (base : Nat) (F : List Nat) (w : World) (A1 A2 : Option Addr) (c1 c2 : Nat) (d : Dev) : Prop where
  bits : w.ownsRow base 33 1 (.slice A1 d.bits.length c1) d.bits.length (wordsV d.bits)
  worn : w.ownsRow base 3 1 (.slice A2 d.worn.length c2) d.worn.length (natsV d.worn)
  off1 : ∀ y, (Value.slice A1 d.bits.length c1).ownBlock = some y → y ∉ F
  off2 : ∀ y, (Value.slice A2 d.worn.length c2).ownBlock = some y → y ∉ F
section
variable {base : Nat} {F : List Nat} {w w' : World} {A1 A2 : Option Addr} {c1 c2 : Nat} {d : Dev}
theorem ROwn.at_ (h : ROwn base F w A1 A2 c1 c2 d) : RefAt w A1 A2 d := ⟨Reads.of_own h.bits, Reads.of_own h.worn⟩
theorem ROwn.keep (h : ROwn base F w A1 A2 c1 c2 d) (k : Keep F w w') : ROwn base F w' A1 A2 c1 c2 d := ⟨own_keep h.bits k h.off1, own_keep h.worn k h.off2, h.off1, h.off2⟩
theorem ROwn.keep0 (h : ROwn base F w A1 A2 c1 c2 d) (k : Keep [] w w') : ROwn base F w' A1 A2 c1 c2 d := h.keep (k.mono (by simp))
theorem ROwn.of_own {w0 : World} (h : RefOwn w0.heap.size w A1 A2 c1 c2 d) (hF : ∀ x ∈ F, x < w0.heap.size) (hb : base ≤ w0.heap.size) : ROwn base F w A1 A2 c1 c2 d :=
  ⟨own_base h.bits hb, own_base h.worn hb, fun y hy hm => by have := (h.bits.lt y hy).1; have := hF y hm; omega, fun y hy hm => by have := (h.worn.lt y hy).1; have := hF y hm; omega⟩
/-- .. and apart from any further old blocks, where the slices are new. -/
theorem ROwn.more {G : List Nat} (h : ROwn base F w A1 A2 c1 c2 d) (h1 : ∀ y, (Value.slice A1 d.bits.length c1).ownBlock = some y → y ∉ G) (h2 : ∀ y, (Value.slice A2 d.worn.length c2).ownBlock = some y → y ∉ G) : ROwn base G w A1 A2 c1 c2 d :=
  ⟨h.bits, h.worn, h1, h2⟩
theorem ROwn.form (h : ROwn base F w A1 A2 c1 c2 d) (hn : 0 < d.bits.length) : ∃ q, A1 = some ⟨q, 0, none⟩ ∧ base ≤ q ∧ q < w.heap.size ∧ q ∉ F := by
  obtain ⟨q, cap, hv, hb, hlt⟩ := h.bits.form hn
  injection hv with e1
  subst e1
  exact ⟨q, rfl, hb, hlt, h.off1 q rfl⟩
theorem ROwn.setBit {q : Nat} (h : ROwn base F w (some ⟨q, 0, none⟩) A2 c1 c2 d) (i x : Nat) (hne : ∀ y, (Value.slice A2 d.worn.length c2).ownBlock = some y → y ≠ q) :
    ROwn base F (w.setCell ⟨q, i, none⟩ (.int .u32 (x : Int))) (some ⟨q, 0, none⟩) A2 c1 c2 { d with bits := d.bits.set i x } := by
  refine ⟨?_, own_keep h.worn (keep_set w q i _) (fun y hy hm => hne y hy (by simpa using hm)), fun y hy => h.off1 y hy, h.off2⟩
  have := (h.bits.stored i (.int .u32 (x : Int))).1
  simpa [wordsV, List.map_set] using this
theorem ROwn.wne {q : Nat} (h : ROwn base F w (some ⟨q, 0, none⟩) A2 c1 c2 d) (_hn : 0 < d.bits.length) : ∀ y, (Value.slice A2 d.worn.length c2).ownBlock = some y → y ≠ q := by
  rintro y hy rfl
  rcases h.bits.2 with ⟨h1, _⟩ | ⟨g1, cap1, cur1, e1, _, hh1, _⟩
  · cases h1
  · rcases h.worn.2 with ⟨h2, _⟩ | ⟨g2, cap2, cur2, e2, _, hh2, _⟩
    · rw [h2] at hy; cases hy
    · injection e1 with e1
      injection e1 with e1
      injection e1 with e1
      rw [e2] at hy
      simp [Value.ownBlock] at hy
      subst hy
      rw [← e1, hh2] at hh1
      injection hh1 with hh1
      injection hh1 with _ ht
      exact absurd ht (by decide)
end
/-- What a writing operation of the reference hands back. -/
def RetRef (base : Nat) (F : List Nat) (w : World) (d : Dev) (e : Int) (en : Ending) (w' : World) : Prop :=
  ∃ A1 A2 c1 c2, en = .returned (.tuple #[.agg (refV d A1 A2 c1 c2).toArray, .int .i64 e]) ∧ ROwn base F w' A1 A2 c1 c2 d ∧ Keep [] w w'

/-- One mask. -/
def Mask1 (w : World) (m : Nat) (e : Ending) (w' : World) : Prop := ∃ g c, e = .returned (.slice (some ⟨g, 0, none⟩) 1 c) ∧ w.heap.size ≤ g ∧ w'.cell? ⟨g, 0, none⟩ = some (.int .u32 (m : Int)) ∧ Keep [] w w'
theorem rmask1 (s : Nat) (w : World) (hs : s < 4294967296) : Calls Try.prog 137 #[.int .u32 (s : Int), .int .i64 1] w (Mask1 w (max s 1)) := by
  refine (rmasks_any s 1 w hs (by decide)).mono ?_
  rintro e w' ⟨A, c, rfl, hown, k⟩
  have hl : maskL (max s 1) 1 = [max s 1] := rfl
  rw [hl] at hown
  obtain ⟨g, cap, hv, hb, hlt⟩ := hown.form (by simp)
  injection hv with e1 _ e3
  subst e1
  exact ⟨g, c, rfl, hb, by have := hown.cellAt 0 (by simp); simpa using this, k⟩

/-- The state behind a word that is programmed. -/
def prD (d d2 : Dev) (t : Bool) (i v : Nat) : Dev := { d2 with bits := d.bits.set i (if t then d.bits.getD i 0 &&& (v ||| max d.seed 1) else v) }
theorem progS_yes (d : Dev) (s q : Int) (v : Nat) (hon : d.on = true) (hi : isS d s q = true) (hor : v ||| d.bits.getD (atS d s q) 0 = d.bits.getD (atS d s q) 0) :
    progS d s q v = (prD d (goesS d).1 (goesS d).2 (atS d s q) v, erE (goesS d).2) := by
  have e : progS d s q v = if (goesS d).2 then ({ (goesS d).1 with bits := d.bits.set (atS d s q) (d.bits.getD (atS d s q) 0 &&& (v ||| max d.seed 1)) }, 63) else ({ (goesS d).1 with bits := d.bits.set (atS d s q) v }, 0) := by
    unfold progS
    rw [if_neg (by simp [hon]), if_neg (by simp [hi])]
    exact if_neg (fun h => h hor)
  rw [e]
  unfold prD erE
  cases (goesS d).2 <;> rfl

section
variable (base : Nat) (F : List Nat) (A1 A2 : Option Addr) (c1 c2 : Nat) (d : Dev) (s q : Int) (v : Nat) (w : World) (hr : ROwn base F w A1 A2 c1 c2 d) (ho : d.Ok) (hv : v < 4294967296) (hF : ∀ x ∈ F, x < w.heap.size) (hbase : base ≤ w.heap.size)
include hr ho hv

set_option maxRecDepth 100000 in
set_option maxHeartbeats 1000000 in
theorem rprog_no (h : d.on = false ∨ isS d s q = false ∨ v ||| d.bits.getD (atS d s q) 0 ≠ d.bits.getD (atS d s q) 0) :
    Calls Try.prog 119 #[.agg (refV d A1 A2 c1 c2).toArray, .int .i64 s, .int .i64 q, .int .u32 (v : Int)] w (RetRef base F w (progS d s q v).1 (progS d s q v).2) := by
  obtain ⟨b0, b1, k1, hsz⟩ := box2_facts w (refV d A1 A2 c1 c2)
  have HW : Hid ((w.alloc (.cells (refV d A1 A2 c1 c2).toArray 57)).alloc (.cells zeroD 57) = box2 w (refV d A1 A2 c1 c2)) := show _ = _ from rfl
  generalize box2 w (refV d A1 A2 c1 c2) = W at *
  have HA : Hid (AggOf Try.prog 57 10) := agg_ref
  have c5 := b0.cell 5
  obtain ⟨_, h1', _, h3', _, h5', _⟩ := ref_cells d A1 A2 c1 c2
  rw [h5'] at c5
  have HR : Hid (progS d s q v = if d.on = false then (d, 63) else if isS d s q = false then (d, 60) else if v ||| d.bits.getD (atS d s q) 0 ≠ d.bits.getD (atS d s q) 0 then (d, 61)
      else if (goesS d).2 then ({ (goesS d).1 with bits := d.bits.set (atS d s q) (d.bits.getD (atS d s q) 0 &&& (v ||| max d.seed 1)) }, 63) else ({ (goesS d).1 with bits := d.bits.set (atS d s q) v }, 0)) := show _ = _ from rfl
  have B0 := Lib.hid b0
  have B1 := Lib.hid b1
  have hlt0 : w.heap.size < W.heap.size := by omega
  clear b0 b1 h5' hsz
  have hc := fun W => Lib.hid (ris_any A1 A2 c1 c2 d s q W)
  have HRW := Lib.hid hr
  have HV := Lib.hid hv
  have HBL := Lib.hid (bits_le d ho)
  cases hon : d.on
  · have HR2 : Hid (progS d s q v = (d, 63)) := by show _ = _; rw [HR.out, if_pos hon]
    rw [hon] at c5
    rw [HR2.out]
    clear HR hon h hc hr ho hv
    go_enter Try.func119, Try.ntmps119
    go_wp2_with (first
      | rw [HW.out]
      | (refine wpList_load_agg rfl 57 (.tmp 4) rfl rfl (cs := refV d A1 A2 c1 c2) HA.out ?_ ?_; exact B0.out.cellsAt)
      | (refine wpList_store_all rfl 57 (.tmp 8) (.tmp 14) rfl rfl rfl (t := 57) (cs := zeroD) (vs := refV d A1 A2 c1 c2) HA.out.2 ?_ (refV_one _ _ _ _ _) rfl ?_; exact B1.out; intro w2 d1 k2))
    have kf := k1.trans k2 (by simp)
    exact bodyPost_ret (results_blk_tmp rfl _ rfl rfl d1 HA.out) rfl ⟨A1, A2, c1, c2, rfl, HRW.out.keep0 kf, kf⟩
  · rw [hon] at c5
    cases hi : isS d s q
    · have HR2 : Hid (progS d s q v = (d, 60)) := by show _ = _; rw [HR.out, if_neg (by simp [hon]), if_pos hi]
      rw [HR2.out]
      rw [hi] at hc
      clear HR hon h hr ho hv hi
      go_enter Try.func119, Try.ntmps119
      go_wp2_with (first
        | rw [HW.out]
        | (refine wpList_load_agg rfl 57 (.tmp 4) rfl rfl (cs := refV d A1 A2 c1 c2) HA.out ?_ ?_; exact B0.out.cellsAt))
      refine (hc _).out.mono ?_
      rintro e w' ⟨rfl, rfl⟩
      have E0 := Lib.hid (B0.out.alloc (.cells (refV d A1 A2 c1 c2).toArray 57))
      have E1 := Lib.hid (B1.out.alloc (.cells (refV d A1 A2 c1 c2).toArray 57))
      have K1 := Lib.hid (k1.alloc (.cells (refV d A1 A2 c1 c2).toArray 57))
      clear hc
      go_wp2_with (first
        | (refine wpList_load_agg rfl 57 (.tmp 4) rfl rfl (cs := refV d A1 A2 c1 c2) HA.out ?_ ?_; exact E0.out.cellsAt)
        | (refine wpList_store_all rfl 57 (.tmp 8) (.tmp 20) rfl rfl rfl (t := 57) (cs := zeroD) (vs := refV d A1 A2 c1 c2) HA.out.2 ?_ (refV_one _ _ _ _ _) rfl ?_; exact E1.out; intro w2 d1 k2))
      have kf := K1.out.trans k2 (by simp)
      exact bodyPost_ret (results_blk_tmp rfl _ rfl rfl d1 HA.out) rfl ⟨A1, A2, c1, c2, rfl, HRW.out.keep0 kf, kf⟩
    · obtain ⟨σ, τ, rfl, rfl, hs, hq, he, hlt, hp0, hp1⟩ := is_nums d ho s q hi
      have hor : v ||| d.bits.getD (atS d σ τ) 0 ≠ d.bits.getD (atS d σ τ) 0 := by
        rcases h with h | h | h
        · rw [hon] at h; cases h
        · rw [hi] at h; cases h
        · exact h
      have HR2 : Hid (progS d σ τ v = (d, 61)) := by show _ = _; rw [HR.out, if_neg (by simp [hon]), if_neg (by simp [hi]), if_pos hor]
      rw [HR2.out]
      rw [hi] at hc
      obtain ⟨b, o, rfl, hb, hcell⟩ := (hr.keep0 k1).at_.bit hlt
      have hbl := bit_lt d ho (atS d σ τ)
      have hu := u32_or_nat v (d.bits.getD (atS d σ τ) 0) hv hbl
      have hne : ((((v ||| d.bits.getD (atS d σ τ) 0 : Nat) : Int)) == ((d.bits.getD (atS d σ τ) 0 : Nat) : Int)) = false := by
        have : ((v ||| d.bits.getD (atS d σ τ) 0 : Nat) : Int) ≠ ((d.bits.getD (atS d σ τ) 0 : Nat) : Int) := fun h => hor (by omega)
        simpa using this
      have hc1 := B0.out.cell 1
      have hc3 := B0.out.cell 3
      rw [h1'] at hc1
      rw [h3'] at hc3
      have HE := Lib.hid he
      have hl0 : (0 : Int) ≤ ((atS d σ τ : Nat) : Int) := by omega
      have hl1 : ((atS d σ τ : Nat) : Int) < (d.bits.length : Int) := by omega
      have hbits := HBL.out
      have hq2 : (τ : Int) ≤ 1024 := by have := ho.nw2; omega
      clear HR hon h hr ho hv hi he hbl h1' h3'
      generalize atS d σ τ = i at *
      generalize d.bits.getD i 0 = x at *
      generalize (v ||| x) = y at *
      go_enter Try.func119, Try.ntmps119
      go_wp2_with (first
        | rw [HW.out]
        | (refine wpList_load_agg rfl 57 (.tmp 4) rfl rfl (cs := refV d (some ⟨b, o, none⟩) A2 c1 c2) HA.out ?_ ?_; exact B0.out.cellsAt))
      refine (hc _).out.mono ?_
      rintro e w' ⟨rfl, rfl⟩
      have E0 := B0.out.alloc (.cells (refV d (some ⟨b, o, none⟩) A2 c1 c2).toArray 57)
      have E1 := B1.out.alloc (.cells (refV d (some ⟨b, o, none⟩) A2 c1 c2).toArray 57)
      have K1 := k1.alloc (.cells (refV d (some ⟨b, o, none⟩) A2 c1 c2).toArray 57)
      have he := HE.out
      clear hc
      go_wp2_with fail
      go_quiet (fail)
      have F0 := Lib.hid (E0.drewN nq)
      have F1 := Lib.hid (E1.drewN nq)
      have G1 := Lib.hid (K1.drewN nq)
      clear E0 E1 K1
      go_wp2_with (first
        | (refine wpList_load_agg rfl 57 (.tmp 4) rfl rfl (cs := refV d (some ⟨b, o, none⟩) A2 c1 c2) HA.out ?_ ?_; exact F0.out.cellsAt)
        | (refine wpList_store_all rfl 57 (.tmp 8) (.tmp 40) rfl rfl rfl (t := 57) (cs := zeroD) (vs := refV d (some ⟨b, o, none⟩) A2 c1 c2) HA.out.2 ?_ (refV_one _ _ _ _ _) rfl ?_; exact F1.out; intro w2 d1 k2))
      have kf := G1.out.trans k2 (by simp)
      exact bodyPost_ret (results_blk_tmp rfl _ rfl rfl d1 HA.out) rfl ⟨_, A2, c1, c2, rfl, HRW.out.keep0 kf, kf⟩

set_option maxRecDepth 100000 in
set_option maxHeartbeats 2000000 in
include hF hbase in
theorem rprog_yes (hon : d.on = true) (hi : isS d s q = true) (hor : v ||| d.bits.getD (atS d s q) 0 = d.bits.getD (atS d s q) 0) :
    Calls Try.prog 119 #[.agg (refV d A1 A2 c1 c2).toArray, .int .i64 s, .int .i64 q, .int .u32 (v : Int)] w (RetRef base F w (progS d s q v).1 (progS d s q v).2) := by
  obtain ⟨b0, b1, k1, hsz⟩ := box2_facts w (refV d A1 A2 c1 c2)
  have HW : Hid ((w.alloc (.cells (refV d A1 A2 c1 c2).toArray 57)).alloc (.cells zeroD 57) = box2 w (refV d A1 A2 c1 c2)) := show _ = _ from rfl
  generalize box2 w (refV d A1 A2 c1 c2) = W at *
  have HA : Hid (AggOf Try.prog 57 10) := agg_ref
  have c5 := b0.cell 5
  obtain ⟨_, h1', _, h3', _, h5', _⟩ := ref_cells d A1 A2 c1 c2
  rw [h5'] at c5
  have HR := Lib.hid (progS_yes d s q v hon hi hor)
  have B0 := Lib.hid b0
  have B1 := Lib.hid b1
  have hlt0 : w.heap.size < W.heap.size := by omega
  have hlt1 : w.heap.size + 1 < W.heap.size := by omega
  clear b0 b1 h5' hsz
  have hc := fun W => Lib.hid (ris_any A1 A2 c1 c2 d s q W)
  have HRW := Lib.hid hr
  have HV := Lib.hid hv
  have HO := Lib.hid ho
  obtain ⟨σ, τ, rfl, rfl, hs, hq, he, hlt, hp0, hp1⟩ := is_nums d ho s q hi
  rw [hi] at hc
  obtain ⟨b, rfl, hbb, hb, hbF⟩ := hr.form (by omega)
  have hcell := (hr.keep0 k1).bits.cellAt (atS d σ τ) (by rw [Nat.mul_one]; exact hlt)
  simp [hlt] at hcell
  have hbl := bit_lt d ho (atS d σ τ)
  have hgd : d.bits[atS d σ τ] = d.bits.getD (atS d σ τ) 0 := by simp [hlt]
  rw [hgd] at hcell
  have hu := u32_or_nat v (d.bits.getD (atS d σ τ) 0) hv hbl
  rw [hor] at hu
  have hc1 := B0.out.cell 1
  have hc3 := B0.out.cell 3
  rw [h1'] at hc1
  rw [h3'] at hc3
  have HE := Lib.hid he
  have hl0 : (0 : Int) ≤ ((atS d σ τ : Nat) : Int) := by omega
  have hl1 : ((atS d σ τ : Nat) : Int) < (d.bits.length : Int) := by omega
  have hbits := bits_le d ho
  have hq2 : (τ : Int) ≤ 1024 := by have := ho.nw2; omega
  have hblen : 0 < d.bits.length := by omega
  have hbW : b < W.heap.size := by omega
  have hwl : d.worn.length ≤ 64 := by rw [ho.wlen]; exact ho.ns2
  rw [hon] at c5
  obtain ⟨eb, ew, es, _⟩ := goes_same d
  have EB := Lib.hid eb
  have EW := Lib.hid ew
  have ES := Lib.hid es
  have HGO := fun A1 A2 c1 c2 W => Lib.hid (rgoes_any A1 A2 c1 c2 d W ho.left2)
  have HCP := fun W (h : RefAt W (some ⟨b, 0, none⟩) A2 d) => Lib.hid (rcopy_any (some ⟨b, 0, none⟩) A2 c1 c2 d W h (by omega) (by omega))
  have HB := Lib.hid hbl
  clear hon hr ho hv hi he hor h1' h3' hgd eb ew es hbl
  rw [HR.out]
  clear HR
  change Calls _ _ _ _ (RetRef base F w (prD d (goesS d).1 (goesS d).2 (atS d σ τ) v) (erE (goesS d).2))
  generalize (goesS d).2 = tt at *
  generalize (goesS d).1 = d2 at *
  generalize atS d σ τ = i at *
  generalize hx : d.bits.getD i 0 = x at *
  have HX := Lib.hid hx
  clear hx
  go_enter Try.func119, Try.ntmps119
  go_wp2_with (first
    | rw [HW.out]
    | (refine wpList_load_agg rfl 57 (.tmp 4) rfl rfl (cs := refV d (some ⟨b, 0, none⟩) A2 c1 c2) HA.out ?_ ?_; exact B0.out.cellsAt))
  refine (hc _).out.mono ?_
  rintro e w' ⟨rfl, rfl⟩
  have E0 := B0.out.alloc (.cells (refV d (some ⟨b, 0, none⟩) A2 c1 c2).toArray 57)
  have E1 := B1.out.alloc (.cells (refV d (some ⟨b, 0, none⟩) A2 c1 c2).toArray 57)
  have K1 := k1.alloc (.cells (refV d (some ⟨b, 0, none⟩) A2 c1 c2).toArray 57)
  have he := HE.out
  clear hc
  go_wp2_with fail
  go_quiet (fail)
  clear he
  have F0 := E0.drewN nq
  have F1 := E1.drewN nq
  have G1 := K1.drewN nq
  have h2z : ((W.alloc (.cells (refV d (some ⟨b, 0, none⟩) A2 c1 c2).toArray 57)).drewN nq).heap.size = W.heap.size + 1 := by simp [World.drewN]
  clear E0 E1 K1 hc1 hc3 hcell
  generalize (W.alloc (.cells (refV d (some ⟨b, 0, none⟩) A2 c1 c2).toArray 57)).drewN nq = W2 at *
  have H2Z := Lib.hid h2z
  clear h2z
  have H0 := Lib.hid F0
  have H1 := Lib.hid F1
  have K2 := Lib.hid G1
  clear F0 F1 G1 k1 hu
  go_wp2_with (refine wpList_load_agg rfl 57 (.tmp 4) rfl rfl (cs := refV d (some ⟨b, 0, none⟩) A2 c1 c2) HA.out ?_ ?_; exact H0.out.cellsAt)
  refine ((HCP _ (HRW.out.keep0 K2.out).at_).out).mono ?_
  rintro e W3 ⟨A1', A2', c1', c2', rfl, hro, k3⟩
  have hsz2 : W.heap.size ≤ W2.heap.size := by have := H2Z.out; omega
  have J0 := Lib.hid (H0.out.keep0 k3)
  have J1 := Lib.hid (H1.out.keep0 k3)
  have K3 := Lib.hid (K2.out.then k3)
  have HRO := Lib.hid hro
  clear hro k3 HCP HRW
  go_wp2_with (first
    | (refine wpList_store_all rfl 57 (.tmp 4) (.tmp 42) rfl rfl rfl (t := 57) (cs := (refV d (some ⟨b, 0, none⟩) A2 c1 c2).toArray) (vs := refV d A1' A2' c1' c2') HA.out.2 ?_ (refV_one _ _ _ _ _) rfl ?_
       · exact J0.out
       intro W4 d4 k4
       have D4 := Lib.hid d4
       have K4 := Lib.hid k4
       clear d4 k4)
    | (refine wpList_load_agg rfl 57 (.tmp 4) rfl rfl (cs := refV d A1' A2' c1' c2') HA.out ?_ ?_; exact D4.out.cellsAt))
  refine (HGO A1' A2' c1' c2' _).out.mono ?_
  rintro e W5 ⟨rfl, k5⟩
  have M0 := Lib.hid (D4.out.keep0 k5)
  have M1 := Lib.hid ((J1.out.keep K4.out (by simp)).keep0 k5)
  have K5 := Lib.hid (K3.out.trans (K4.out.then k5) (by simp))
  have k35 : Keep [w.heap.size] W3 W5 := K4.out.then k5
  have hq1 : ∀ y, (Value.slice A1' d.bits.length c1').ownBlock = some y → y ∉ [w.heap.size] := fun y hy hm => by
    have := (HRO.out.bits.lt y hy).1
    simp at hm
    omega
  have hq2' : ∀ y, (Value.slice A2' d.worn.length c2').ownBlock = some y → y ∉ [w.heap.size] := fun y hy hm => by
    have := (HRO.out.worn.lt y hy).1
    simp at hm
    omega
  have hro5 : RefOwn W2.heap.size W5 A1' A2' c1' c2' d2 := ⟨by rw [EB.out]; exact own_keep HRO.out.bits k35 hq1, by rw [EW.out]; exact own_keep HRO.out.worn k35 hq2'⟩
  have HRO5 := Lib.hid hro5
  clear hro5 k5 k35 hq1 hq2' HRO HGO J0 J1 D4 K4 K3 H0 H1
  have hq0 : d2.bits.length = d.bits.length := by rw [EB.out]
  obtain ⟨q, cap, hqv, hqb, _⟩ := HRO5.out.bits.form (by omega)
  injection hqv with hqv _ hcc
  subst hqv
  subst hcc
  have hown : ∀ W6, Keep [w.heap.size] W5 W6 → ROwn base F W6 (some ⟨q, 0, none⟩) A2' c1' c2' d2 := fun W6 k6 => by
    have h2 := HRO5.out
    have e1 : ∀ y, (Value.slice (some ⟨q, 0, none⟩) d2.bits.length c1').ownBlock = some y → y ∉ [w.heap.size] := fun y hy hm => by
      have := (h2.bits.lt y hy).1
      simp at hm
      omega
    have e2 : ∀ y, (Value.slice A2' d2.worn.length c2').ownBlock = some y → y ∉ [w.heap.size] := fun y hy hm => by
      have := (h2.worn.lt y hy).1
      simp at hm
      omega
    exact ROwn.of_own (w0 := W2) ⟨own_keep h2.bits k6 e1, own_keep h2.worn k6 e2⟩ (fun x hx => by have := hF x hx; omega) (by omega)
  have HOWN := Lib.hid hown
  have hqw : w.heap.size < q := by omega
  have hqw1 : w.heap.size + 1 < q := by omega
  have hqne : q ≠ w.heap.size := by omega
  have hqne1 : q ≠ w.heap.size + 1 := by omega
  clear hown
  cases tt
  · have HP : Hid (prD d d2 false i v = { d2 with bits := d2.bits.set i v }) := by show _ = _; unfold prD; rw [EB.out]; rfl
    go_wp2_with (refine stop_store 57 (.tmp 4) (.tmp 46) rfl ?_)
    constructor
    refine wpList_store_all rfl 57 (.tmp 4) (.tmp 46) rfl rfl rfl (t := 57) (cs := (refV d (some ⟨q, 0, none⟩) A2' c1' c2').toArray) (vs := refV d2 (some ⟨q, 0, none⟩) A2' c1' c2') HA.out.2 M0.out (refV_one _ _ _ _ _) rfl ?_
    intro W6 d6 k6
    have D6 := Lib.hid d6
    have K6 := Lib.hid k6
    have hc3 := d6.cell 3
    have hc8 := d6.cell 8
    rw [(ref_cells d2 (some ⟨q, 0, none⟩) A2' c1' c2').2.2.2.1] at hc3
    rw [(ref_cells d2 (some ⟨q, 0, none⟩) A2' c1' c2').2.2.2.2.2.2.2.2.1] at hc8
    clear d6 k6
    have own6 := HOWN.out W6 K6.out
    have q1 := own6.bits.cellAt i (by omega)
    have q2 := own6.bits.frozenAt i
    rw [List.getElem?_map, EB.out, List.getElem?_eq_getElem hlt, Option.map_some] at q1
    rw [hq0] at hc3
    have own7' := own6.setBit i v (own6.wne (by omega))
    rw [← HP.out] at own7'
    have own7 := Lib.hid own7'
    have D7 := Lib.hid (D6.out.far (p := ⟨q, i, none⟩) (fun e => hqne e.symm) (.int .u32 (v : Int)))
    have E7 := Lib.hid ((M1.out.keep K6.out (by simp)).far (p := ⟨q, i, none⟩) (fun e => hqne1 e.symm) (.int .u32 (v : Int)))
    have K7 := Lib.hid ((K5.out.trans K6.out (by simp)).setCell (p := ⟨q, i, none⟩) (by simp; omega) (.int .u32 (v : Int)))
    have L7 : Hid (refV (prD d d2 false i v) (some ⟨q, 0, none⟩) A2' c1' c2' = refV d2 (some ⟨q, 0, none⟩) A2' c1' c2') := by show _ = _; rw [HP.out]; simp [refV]
    clear own6 hq0 own7'
    go_wp2_with (first
      | (refine wpList_load_agg rfl 57 (.tmp 4) rfl rfl (cs := refV d2 (some ⟨q, 0, none⟩) A2' c1' c2') HA.out ?_ ?_; exact D7.out.cellsAt)
      | (refine wpList_store_all rfl 57 (.tmp 8) (.tmp 71) rfl rfl rfl (t := 57) (cs := zeroD) (vs := refV d2 (some ⟨q, 0, none⟩) A2' c1' c2') HA.out.2 ?_ (refV_one _ _ _ _ _) rfl ?_; exact E7.out; intro w8 d8 k8))
    refine bodyPost_ret (results_blk_tmp rfl _ rfl rfl d8 HA.out) rfl ⟨_, A2', c1', c2', by rw [L7.out]; rfl, ?_, K7.out.trans k8 (by simp)⟩
    have o7 := own7.out
    refine ⟨own_keep o7.bits k8 (fun y hy hm => ?_), own_keep o7.worn k8 (fun y hy hm => ?_), o7.off1, o7.off2⟩
    · simp [Value.ownBlock] at hy hm
      omega
    · have := (HRO5.out.worn.lt y hy).1
      simp at hm
      omega
  · have HP : Hid (prD d d2 true i v = { d2 with bits := d2.bits.set i (x &&& (v ||| max d.seed 1)) }) := by show _ = _; unfold prD; rw [EB.out, HX.out]; rfl
    go_wp2_with (refine stop_store 57 (.tmp 4) (.tmp 46) rfl ?_)
    constructor
    refine wpList_store_all rfl 57 (.tmp 4) (.tmp 46) rfl rfl rfl (t := 57) (cs := (refV d (some ⟨q, 0, none⟩) A2' c1' c2').toArray) (vs := refV d2 (some ⟨q, 0, none⟩) A2' c1' c2') HA.out.2 M0.out (refV_one _ _ _ _ _) rfl ?_
    intro W6 d6 k6
    have D6 := Lib.hid d6
    have K6 := Lib.hid k6
    have hc3 := d6.cell 3
    have hc8 := d6.cell 8
    rw [(ref_cells d2 (some ⟨q, 0, none⟩) A2' c1' c2').2.2.2.1] at hc3
    rw [(ref_cells d2 (some ⟨q, 0, none⟩) A2' c1' c2').2.2.2.2.2.2.2.2.1, ES.out] at hc8
    clear d6 k6
    have hbit : ∀ W, Keep [w.heap.size] W5 W → W.cell? ⟨q, i, none⟩ = some (.int .u32 (x : Int)) ∧ W.frozen? ⟨q, i, none⟩ = false := fun W hW => by
      have own6 := HOWN.out W hW
      have q1 := own6.bits.cellAt i (by omega)
      rw [List.getElem?_map, EB.out, List.getElem?_eq_getElem hlt, Option.map_some] at q1
      have hx2 : d.bits[i] = x := by rw [← HX.out]; simp [hlt]
      rw [hx2] at q1
      exact ⟨q1, own6.bits.frozenAt i⟩
    have HBIT := Lib.hid hbit
    obtain ⟨p1, p2⟩ := hbit W6 K6.out
    have hms : max d.seed 1 < 4294967296 := by have := HO.out.seed2; omega
    have HMS := Lib.hid hms
    have hsd := HO.out.seed2
    have HSD := Lib.hid hsd
    have hfz : w.heap.size ≠ q := fun e => hqne e.symm
    have HQ0 := Lib.hid hq0
    clear hbit hms hsd hq0 M0
    go_upto_region 12 with fail
    rw [HQ0.out] at hc3
    refine wp_region_held_drew (by kernel_rfl) (S := fun w' => w'.cell? ⟨w.heap.size, 3, none⟩ = some (.slice (some ⟨q, 0, none⟩) d.bits.length c1') ∧ w'.cell? ⟨w.heap.size, 8, none⟩ = some (.int .u32 (d.seed : Int))) ⟨by simpa using hc3, by simpa using hc8⟩ (fun hS => ?_)
    (refine ah_take (v := ?_) 0 rfl (by kernel_rfl) (by kernel_rfl) (by kernel_rfl) (fun _ _ _ h => h) ?_ hS ?_; rotate_left; (intro w' hSw; (try dsimp only at hSw); go_simp; try with_reducible rfl); simp only [Act.put, List.setIfInBounds_toArray, List.set_cons_zero, List.set_cons_succ])
    (refine ah_take (v := ?_) 1 rfl (by kernel_rfl) (by kernel_rfl) (by kernel_rfl) (fun _ _ _ h => h) ?_ hS ?_; rotate_left; (intro w' hSw; (try dsimp only at hSw); go_simp; try with_reducible rfl); simp only [Act.put, List.setIfInBounds_toArray, List.set_cons_zero, List.set_cons_succ])
    (refine ah_take (v := ?_) 2 rfl (by kernel_rfl) (by kernel_rfl) (by kernel_rfl) (fun _ _ _ h => h) ?_ hS ?_; rotate_left; (intro w' hSw; (try dsimp only at hSw); go_simp; try with_reducible rfl); simp only [Act.put, List.setIfInBounds_toArray, List.set_cons_zero, List.set_cons_succ])
    (refine ah_take (v := ?_) 3 rfl (by kernel_rfl) (by kernel_rfl) (by kernel_rfl) (fun _ _ _ h => h) ?_ hS ?_; rotate_left; (intro w' hSw; (try dsimp only at hSw); go_simp; try with_reducible rfl); simp only [Act.put, List.setIfInBounds_toArray, List.set_cons_zero, List.set_cons_succ])
    (refine ah_take (v := ?_) 4 rfl (by kernel_rfl) (by kernel_rfl) (by kernel_rfl) (fun _ _ _ h => h) ?_ hS ?_; rotate_left; (intro w' hSw; (try dsimp only at hSw); go_simp; try with_reducible rfl); simp only [Act.put, List.setIfInBounds_toArray, List.set_cons_zero, List.set_cons_succ])
    (refine ah_take (v := ?_) 5 rfl (by kernel_rfl) (by kernel_rfl) (by kernel_rfl) (fun _ _ _ h => h) ?_ hS ?_; rotate_left; (intro w' hSw; (try dsimp only at hSw); go_simp; try with_reducible rfl); simp only [Act.put, List.setIfInBounds_toArray, List.set_cons_zero, List.set_cons_succ])
    (refine ah_take (v := ?_) 6 rfl (by kernel_rfl) (by kernel_rfl) (by kernel_rfl) (fun _ _ _ h => h) ?_ hS ?_; rotate_left; (intro w' hSw; (try dsimp only at hSw); go_simp; try with_reducible rfl); simp only [Act.put, List.setIfInBounds_toArray, List.set_cons_zero, List.set_cons_succ])
    (refine ah_take (v := ?_) 8 rfl (by kernel_rfl) (by kernel_rfl) (by kernel_rfl) (fun _ _ _ h => h) ?_ hS ?_; rotate_left; (intro w' hSw; (try dsimp only at hSw); go_simp; try with_reducible rfl); simp only [Act.put, List.setIfInBounds_toArray, List.set_cons_zero, List.set_cons_succ])
    (refine ah_take (v := ?_) 9 rfl (by kernel_rfl) (by kernel_rfl) (by kernel_rfl) (fun _ _ _ h => h) ?_ hS ?_; rotate_left; (intro w' hSw; (try dsimp only at hSw); go_simp; try with_reducible rfl); simp only [Act.put, List.setIfInBounds_toArray, List.set_cons_zero, List.set_cons_succ])
    (refine ah_take (v := ?_) 10 rfl (by kernel_rfl) (by kernel_rfl) (by kernel_rfl) (fun _ _ _ h => h) ?_ hS ?_; rotate_left; (intro w' hSw; (try dsimp only at hSw); go_simp; try with_reducible rfl); simp only [Act.put, List.setIfInBounds_toArray, List.set_cons_zero, List.set_cons_succ])
    refine ah_two 7 11 (by kernel_rfl) ?_ ?_
    · refine oph_run (v := .int .u32 (x : Int)) (w' := W6.drew) 7 rfl (by go_simp) hS ?_
      (simp only [Act.put, List.setIfInBounds_toArray, List.set_cons_zero, List.set_cons_succ])
      refine ah_one 11 (by kernel_rfl) ?_
      refine oph_call (vs := #[.int .u32 (d.seed : Int), .int .i64 1]) 11 rfl (by simp only [List.map_toArray, List.map_cons, List.map_nil]; rfl) Try.func137 (by kernel_rfl) (by kernel_rfl) (rmask1 d.seed _ HSD.out) ?_
      rintro e w4 ⟨gm, cm, rfl, hgm, hcm, k4⟩
      have k64 := K6.out.drew.then k4
      obtain ⟨s1, s2⟩ := HBIT.out w4 k64
      have e4 := (D6.out.drew).keep0 k4
      have r3 := e4.cell 3
      have r8 := e4.cell 8
      rw [(ref_cells d2 (some ⟨q, 0, none⟩) A2' c1' c2').2.2.2.1, HQ0.out] at r3
      rw [(ref_cells d2 (some ⟨q, 0, none⟩) A2' c1' c2').2.2.2.2.2.2.2.2.1, ES.out] at r8
      have E4 := Lib.hid e4
      have K64 := Lib.hid k64
      refine ⟨_, rfl, ⟨r3, r8⟩, ?_⟩
      have hS : w4.cell? ⟨w.heap.size, 3, none⟩ = some (.slice (some ⟨q, 0, none⟩) d.bits.length c1') ∧ w4.cell? ⟨w.heap.size, 8, none⟩ = some (.int .u32 (d.seed : Int)) := ⟨r3, r8⟩
      clear e4 k64 k4
      (simp only [Act.put, List.setIfInBounds_toArray, List.set_cons_zero, List.set_cons_succ])
      (refine ah_take (v := ?_) 12 rfl (by kernel_rfl) (by kernel_rfl) (by kernel_rfl) (fun _ _ _ h => h) ?_ hS ?_; rotate_left; (intro w' hSw; (try dsimp only at hSw); go_simp; try with_reducible rfl); simp only [Act.put, List.setIfInBounds_toArray, List.set_cons_zero, List.set_cons_succ])
      refine ah_one 13 (by kernel_rfl) ?_
      refine oph_run (v := .int .u32 ((max d.seed 1 : Nat) : Int)) (w' := w4) 13 rfl (by go_simp) hS ?_
      (simp only [Act.put, List.setIfInBounds_toArray, List.set_cons_zero, List.set_cons_succ])
      refine ah_one 14 (by kernel_rfl) ?_
      refine oph_call (vs := #[.int .u32 (x : Int), .int .u32 (v : Int), .int .u32 ((max d.seed 1 : Nat) : Int)]) 14 rfl (by simp only [List.map_toArray, List.map_cons, List.map_nil]; rfl) Try.func136 (by kernel_rfl) (by kernel_rfl) (rfalls_any x v (max d.seed 1) _ HB.out) ?_
      rintro e w5 ⟨rfl, rfl⟩
      refine ⟨_, rfl, hS, ?_⟩
      (simp only [Act.put, List.setIfInBounds_toArray, List.set_cons_zero, List.set_cons_succ])
      (refine ah_take (v := ?_) 15 rfl (by kernel_rfl) (by kernel_rfl) (by kernel_rfl) (fun _ _ _ h => h) ?_ hS ?_; rotate_left; (intro w' hSw; (try dsimp only at hSw); go_simp; try with_reducible rfl); simp only [Act.put, List.setIfInBounds_toArray, List.set_cons_zero, List.set_cons_succ])
      refine ah_one 16 (by kernel_rfl) ?_
      refine oph_store1 (v := .int .u32 ((x &&& (v ||| max d.seed 1) : Nat) : Int)) 16 rfl rfl rfl (by kernel_rfl) rfl rfl s1 s2 (by simp [World.cell?_setCell_far, hqne, r3, r8]) ?_
      refine wpAnyH_done (by kernel_rfl) ?_ _
      (simp only [Act.put])
      have own4 := HOWN.out w4 K64.out
      have own7' := own4.setBit i (x &&& (v ||| max d.seed 1)) (own4.wne (by rw [HQ0.out]; omega))
      rw [← HP.out] at own7'
      have own7 := Lib.hid own7'
      have D7 := Lib.hid (E4.out.far (p := ⟨q, i, none⟩) (fun e => hqne e.symm) (.int .u32 ((x &&& (v ||| max d.seed 1) : Nat) : Int)))
      have E7 := Lib.hid ((M1.out.keep K64.out (by simp)).far (p := ⟨q, i, none⟩) (fun e => hqne1 e.symm) (.int .u32 ((x &&& (v ||| max d.seed 1) : Nat) : Int)))
      have K7 := Lib.hid ((K5.out.trans K64.out (by simp)).setCell (p := ⟨q, i, none⟩) (by simp; omega) (.int .u32 ((x &&& (v ||| max d.seed 1) : Nat) : Int)))
      have L7 : Hid (refV (prD d d2 true i v) (some ⟨q, 0, none⟩) A2' c1' c2' = refV d2 (some ⟨q, 0, none⟩) A2' c1' c2') := by show _ = _; rw [HP.out]; simp [refV]
      clear own4 own7' p1 p2 s1 s2 hcm
      go_wp2_with (first
        | (refine wpList_load_agg rfl 57 (.tmp 4) rfl rfl (cs := refV d2 (some ⟨q, 0, none⟩) A2' c1' c2') HA.out ?_ ?_; exact D7.out.cellsAt)
        | (refine wpList_store_all rfl 57 (.tmp 8) (.tmp 65) rfl rfl rfl (t := 57) (cs := zeroD) (vs := refV d2 (some ⟨q, 0, none⟩) A2' c1' c2') HA.out.2 ?_ (refV_one _ _ _ _ _) rfl ?_; exact E7.out; intro w8 d8 k8))
      refine bodyPost_ret (results_blk_tmp rfl _ rfl rfl d8 HA.out) rfl ⟨_, A2', c1', c2', by rw [L7.out]; rfl, ?_, K7.out.trans k8 (by simp)⟩
      have o7 := own7.out
      refine ⟨own_keep o7.bits k8 (fun y hy hm => ?_), own_keep o7.worn k8 (fun y hy hm => ?_), o7.off1, o7.off2⟩
      · simp [Value.ownBlock] at hy hm
        omega
      · have := (HRO5.out.worn.lt y hy).1
        simp at hm
        omega
    · refine oph_call (vs := #[.int .u32 (d.seed : Int), .int .i64 1]) 11 rfl (by simp only [List.map_toArray, List.map_cons, List.map_nil]; rfl) Try.func137 (by kernel_rfl) (by kernel_rfl) (rmask1 d.seed _ HSD.out) ?_
      rintro e w4 ⟨gm, cm, rfl, hgm, hcm, k4⟩
      have k64 := K6.out.drew.then k4
      obtain ⟨s1, s2⟩ := HBIT.out w4 k64
      have e4 := (D6.out.drew).keep0 k4
      have r3 := e4.cell 3
      have r8 := e4.cell 8
      rw [(ref_cells d2 (some ⟨q, 0, none⟩) A2' c1' c2').2.2.2.1, HQ0.out] at r3
      rw [(ref_cells d2 (some ⟨q, 0, none⟩) A2' c1' c2').2.2.2.2.2.2.2.2.1, ES.out] at r8
      have E4 := Lib.hid e4
      have K64 := Lib.hid k64
      refine ⟨_, rfl, ⟨r3, r8⟩, ?_⟩
      have hS : w4.cell? ⟨w.heap.size, 3, none⟩ = some (.slice (some ⟨q, 0, none⟩) d.bits.length c1') ∧ w4.cell? ⟨w.heap.size, 8, none⟩ = some (.int .u32 (d.seed : Int)) := ⟨r3, r8⟩
      clear e4 k64 k4
      (simp only [Act.put, List.setIfInBounds_toArray, List.set_cons_zero, List.set_cons_succ])
      (refine ah_take (v := ?_) 12 rfl (by kernel_rfl) (by kernel_rfl) (by kernel_rfl) (fun _ _ _ h => h) ?_ hS ?_; rotate_left; (intro w' hSw; (try dsimp only at hSw); go_simp; try with_reducible rfl); simp only [Act.put, List.setIfInBounds_toArray, List.set_cons_zero, List.set_cons_succ])
      refine ah_two 7 13 (by kernel_rfl) ?_ ?_
      · refine oph_run (v := .int .u32 (x : Int)) (w' := w4) 7 rfl (by go_simp) hS ?_
        (simp only [Act.put, List.setIfInBounds_toArray, List.set_cons_zero, List.set_cons_succ])
        refine ah_one 13 (by kernel_rfl) ?_
        refine oph_run (v := .int .u32 ((max d.seed 1 : Nat) : Int)) (w' := w4) 13 rfl (by go_simp) hS ?_
        (simp only [Act.put, List.setIfInBounds_toArray, List.set_cons_zero, List.set_cons_succ])
        refine ah_one 14 (by kernel_rfl) ?_
        refine oph_call (vs := #[.int .u32 (x : Int), .int .u32 (v : Int), .int .u32 ((max d.seed 1 : Nat) : Int)]) 14 rfl (by simp only [List.map_toArray, List.map_cons, List.map_nil]; rfl) Try.func136 (by kernel_rfl) (by kernel_rfl) (rfalls_any x v (max d.seed 1) _ HB.out) ?_
        rintro e w5 ⟨rfl, rfl⟩
        refine ⟨_, rfl, hS, ?_⟩
        (simp only [Act.put, List.setIfInBounds_toArray, List.set_cons_zero, List.set_cons_succ])
        (refine ah_take (v := ?_) 15 rfl (by kernel_rfl) (by kernel_rfl) (by kernel_rfl) (fun _ _ _ h => h) ?_ hS ?_; rotate_left; (intro w' hSw; (try dsimp only at hSw); go_simp; try with_reducible rfl); simp only [Act.put, List.setIfInBounds_toArray, List.set_cons_zero, List.set_cons_succ])
        refine ah_one 16 (by kernel_rfl) ?_
        refine oph_store1 (v := .int .u32 ((x &&& (v ||| max d.seed 1) : Nat) : Int)) 16 rfl rfl rfl (by kernel_rfl) rfl rfl s1 s2 (by simp [World.cell?_setCell_far, hqne, r3, r8]) ?_
        refine wpAnyH_done (by kernel_rfl) ?_ _
        (simp only [Act.put])
        have own4 := HOWN.out w4 K64.out
        have own7' := own4.setBit i (x &&& (v ||| max d.seed 1)) (own4.wne (by rw [HQ0.out]; omega))
        rw [← HP.out] at own7'
        have own7 := Lib.hid own7'
        have D7 := Lib.hid (E4.out.far (p := ⟨q, i, none⟩) (fun e => hqne e.symm) (.int .u32 ((x &&& (v ||| max d.seed 1) : Nat) : Int)))
        have E7 := Lib.hid ((M1.out.keep K64.out (by simp)).far (p := ⟨q, i, none⟩) (fun e => hqne1 e.symm) (.int .u32 ((x &&& (v ||| max d.seed 1) : Nat) : Int)))
        have K7 := Lib.hid ((K5.out.trans K64.out (by simp)).setCell (p := ⟨q, i, none⟩) (by simp; omega) (.int .u32 ((x &&& (v ||| max d.seed 1) : Nat) : Int)))
        have L7 : Hid (refV (prD d d2 true i v) (some ⟨q, 0, none⟩) A2' c1' c2' = refV d2 (some ⟨q, 0, none⟩) A2' c1' c2') := by show _ = _; rw [HP.out]; simp [refV]
        clear own4 own7' p1 p2 s1 s2 hcm
        go_wp2_with (first
          | (refine wpList_load_agg rfl 57 (.tmp 4) rfl rfl (cs := refV d2 (some ⟨q, 0, none⟩) A2' c1' c2') HA.out ?_ ?_; exact D7.out.cellsAt)
          | (refine wpList_store_all rfl 57 (.tmp 8) (.tmp 65) rfl rfl rfl (t := 57) (cs := zeroD) (vs := refV d2 (some ⟨q, 0, none⟩) A2' c1' c2') HA.out.2 ?_ (refV_one _ _ _ _ _) rfl ?_; exact E7.out; intro w8 d8 k8))
        refine bodyPost_ret (results_blk_tmp rfl _ rfl rfl d8 HA.out) rfl ⟨_, A2', c1', c2', by rw [L7.out]; rfl, ?_, K7.out.trans k8 (by simp)⟩
        have o7 := own7.out
        refine ⟨own_keep o7.bits k8 (fun y hy hm => ?_), own_keep o7.worn k8 (fun y hy hm => ?_), o7.off1, o7.off2⟩
        · simp [Value.ownBlock] at hy hm
          omega
        · have := (HRO5.out.worn.lt y hy).1
          simp at hm
          omega
      · refine oph_run (v := .int .u32 ((max d.seed 1 : Nat) : Int)) (w' := w4) 13 rfl (by go_simp) hS ?_
        (simp only [Act.put, List.setIfInBounds_toArray, List.set_cons_zero, List.set_cons_succ])
        refine ah_one 7 (by kernel_rfl) ?_
        refine oph_run (v := .int .u32 (x : Int)) (w' := w4) 7 rfl (by go_simp) hS ?_
        (simp only [Act.put, List.setIfInBounds_toArray, List.set_cons_zero, List.set_cons_succ])
        refine ah_one 14 (by kernel_rfl) ?_
        refine oph_call (vs := #[.int .u32 (x : Int), .int .u32 (v : Int), .int .u32 ((max d.seed 1 : Nat) : Int)]) 14 rfl (by simp only [List.map_toArray, List.map_cons, List.map_nil]; rfl) Try.func136 (by kernel_rfl) (by kernel_rfl) (rfalls_any x v (max d.seed 1) _ HB.out) ?_
        rintro e w5 ⟨rfl, rfl⟩
        refine ⟨_, rfl, hS, ?_⟩
        (simp only [Act.put, List.setIfInBounds_toArray, List.set_cons_zero, List.set_cons_succ])
        (refine ah_take (v := ?_) 15 rfl (by kernel_rfl) (by kernel_rfl) (by kernel_rfl) (fun _ _ _ h => h) ?_ hS ?_; rotate_left; (intro w' hSw; (try dsimp only at hSw); go_simp; try with_reducible rfl); simp only [Act.put, List.setIfInBounds_toArray, List.set_cons_zero, List.set_cons_succ])
        refine ah_one 16 (by kernel_rfl) ?_
        refine oph_store1 (v := .int .u32 ((x &&& (v ||| max d.seed 1) : Nat) : Int)) 16 rfl rfl rfl (by kernel_rfl) rfl rfl s1 s2 (by simp [World.cell?_setCell_far, hqne, r3, r8]) ?_
        refine wpAnyH_done (by kernel_rfl) ?_ _
        (simp only [Act.put])
        have own4 := HOWN.out w4 K64.out
        have own7' := own4.setBit i (x &&& (v ||| max d.seed 1)) (own4.wne (by rw [HQ0.out]; omega))
        rw [← HP.out] at own7'
        have own7 := Lib.hid own7'
        have D7 := Lib.hid (E4.out.far (p := ⟨q, i, none⟩) (fun e => hqne e.symm) (.int .u32 ((x &&& (v ||| max d.seed 1) : Nat) : Int)))
        have E7 := Lib.hid ((M1.out.keep K64.out (by simp)).far (p := ⟨q, i, none⟩) (fun e => hqne1 e.symm) (.int .u32 ((x &&& (v ||| max d.seed 1) : Nat) : Int)))
        have K7 := Lib.hid ((K5.out.trans K64.out (by simp)).setCell (p := ⟨q, i, none⟩) (by simp; omega) (.int .u32 ((x &&& (v ||| max d.seed 1) : Nat) : Int)))
        have L7 : Hid (refV (prD d d2 true i v) (some ⟨q, 0, none⟩) A2' c1' c2' = refV d2 (some ⟨q, 0, none⟩) A2' c1' c2') := by show _ = _; rw [HP.out]; simp [refV]
        clear own4 own7' p1 p2 s1 s2 hcm
        go_wp2_with (first
          | (refine wpList_load_agg rfl 57 (.tmp 4) rfl rfl (cs := refV d2 (some ⟨q, 0, none⟩) A2' c1' c2') HA.out ?_ ?_; exact D7.out.cellsAt)
          | (refine wpList_store_all rfl 57 (.tmp 8) (.tmp 65) rfl rfl rfl (t := 57) (cs := zeroD) (vs := refV d2 (some ⟨q, 0, none⟩) A2' c1' c2') HA.out.2 ?_ (refV_one _ _ _ _ _) rfl ?_; exact E7.out; intro w8 d8 k8))
        refine bodyPost_ret (results_blk_tmp rfl _ rfl rfl d8 HA.out) rfl ⟨_, A2', c1', c2', by rw [L7.out]; rfl, ?_, K7.out.trans k8 (by simp)⟩
        have o7 := own7.out
        refine ⟨own_keep o7.bits k8 (fun y hy hm => ?_), own_keep o7.worn k8 (fun y hy hm => ?_), o7.off1, o7.off2⟩
        · simp [Value.ownBlock] at hy hm
          omega
        · have := (HRO5.out.worn.lt y hy).1
          simp at hm
          omega
end
end Go.Proofs.Yteanpgkonhdbpaa
