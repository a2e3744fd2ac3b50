/- The document's bank: words, program, walked. Condition: the device is one that may be. The document's header words (ref07.Words), walked. No condition but that they are words. The document's bench (law08) in memory; begin, walked. Condition: the device is one that may be. -/
import Derived.Test.YteanpgkonhdbpaaBkP
import Derived.Test.YteanpgkonhdbpaaRefNew
import Derived.Test.YteanpgkonhdbpaaBkD
namespace Go.Proofs.Yteanpgkonhdbpaa
open Go.RowKit

theorem rown_slice {base : Nat} {F : List Nat} {w : World} {A1 A2 : Option Addr} {c1 c2 : Nat} {d : Dev} (h : ROwn base F w A1 A2 c1 c2 d) (hn : 0 < d.bits.length) : ∃ q, A1 = some ⟨q, 0, none⟩ ∧ d.bits.length ≤ c1 ∧ c1 ≤ maxLen ∧ q < w.heap.size := by
  rcases h.bits.2 with ⟨_, h0⟩ | ⟨q, cap, cur, hv, _, hg, hle, hmx, _, _⟩
  · omega
  · injection hv with e1 _ e3
    subst e1
    subst e3
    exact ⟨q, rfl, hle, hmx, (Array.getElem?_eq_some_iff.1 hg).1⟩
theorem reads_sect {w : World} {q : Nat} {d : Dev} (ho : d.Ok) (h : Reads w 1 (some ⟨q, 0, none⟩) d.bits.length (wordsV d.bits)) {s : Nat} (hs : s < d.ns) : Reads w 1 (some ⟨q, s * d.nw, none⟩) d.nw (wordsV (sectL d s)) := by
  have hnw := ho.nw1
  have hhi := sect_hi d ho s hs
  have hl : (sectL d s).length = d.nw := sectL_len d ho s hs
  obtain ⟨b, o, e, hb, hc⟩ := h.addr (by omega)
  injection e with e
  injection e with e1 e2
  subst e1
  subst e2
  refine ⟨by simp [wordsV, hl], fun _ => ⟨_, _, rfl, hb, fun j u hj => ?_⟩⟩
  have hj2 : j < d.nw := by
    have := (List.getElem?_eq_some_iff.1 hj).1
    simp [wordsV, hl] at this
    exact this
  unfold wordsV at hj
  rw [List.getElem?_map, sectL_get d s j hj2] at hj
  have := hc (s * d.nw + j) u (by unfold wordsV; rw [List.getElem?_map]; exact hj)
  rw [Nat.zero_add] at this
  exact this

set_option maxRecDepth 100000 in
set_option maxHeartbeats 4000000 in
theorem words_any08 (base : Nat) (F : List Nat) (A1 A2 : Option Addr) (c1 c2 : Nat) (d : Dev) (s : Nat) (w : World) (hr : ROwn base F w A1 A2 c1 c2 d) (ho : d.Ok) (hs : s < d.ns) :
    Calls Try.prog 40 #[.agg (refV d A1 A2 c1 c2).toArray, .int .i64 (s : Int)] w fun e w' => ∃ A c, e = .returned (.slice A d.nw c) ∧ Reads w' 1 A d.nw (wordsV (sectL d s)) ∧ Keep [] w w' := by
  have hns := ho.ns2
  have hnw1 := ho.nw1
  have hnw2 := ho.nw2
  have hhi := sect_hi d ho s hs
  have hbl : d.bits.length ≤ 65536 := bits_le d ho
  obtain ⟨q, rfl, hc1, hmx, hq⟩ := rown_slice hr (by omega)
  have HRD := Lib.hid (reads_sect ho hr.at_.bits hs)
  obtain ⟨r0, r1, r2, r3, _⟩ := ref_cells d (some ⟨q, 0, none⟩) A2 c1 c2
  have b0 := Blk.new w 57 (refV d (some ⟨q, 0, none⟩) A2 c1 c2).toArray
  have K0 : Keep [] w (w.alloc (.cells (refV d (some ⟨q, 0, none⟩) A2 c1 c2).toArray 57)) := (Keep.refl [] w).alloc _
  have d1 := b0.cell 1
  have d3 := b0.cell 3
  rw [r1] at d1
  rw [r3] at d3
  have hw1 : IntKind.i64.wrap ((s : Int) * d.nw) = ((s * d.nw : Nat) : Int) := by rw [show (s : Int) * d.nw = ((s * d.nw : Nat) : Int) by rw [Int.natCast_mul]]; exact IntWalk.i64_in _ (by omega)
  have hw2 : IntKind.i64.wrap ((s : Int) + 1) = (s : Int) + 1 := IntWalk.i64_in _ (by omega)
  have hw3 : IntKind.i64.wrap (((s : Int) + 1) * d.nw) = ((s * d.nw + d.nw : Nat) : Int) := by rw [show ((s : Int) + 1) * d.nw = ((s * d.nw + d.nw : Nat) : Int) by rw [Int.add_mul, Int.natCast_add, Int.natCast_mul, Int.one_mul]]; exact IntWalk.i64_in _ (by omega)
  generalize hlo2 : s * d.nw = lo at *
  have hl0 : (0 : Int) ≤ (lo : Int) := by omega
  have HHI : Hid (lo + d.nw - lo = d.nw) := by show _ = _; omega
  have hhi2 : lo + d.nw ≤ 65536 := by omega
  have hhj : lo < lo + d.nw := by omega
  generalize lo + d.nw = hi at *
  have hs1 : (lo : Int) ≤ (hi : Int) := by omega
  have hs2 : (hi : Int) ≤ (d.bits.length : Int) := by omega
  have hs2c : (hi : Int) ≤ (c1 : Int) := by omega
  have hs3 : lo < d.bits.length := by omega
  have hs3c : lo < c1 := by omega
  have hs4 : (c1 = lo) = False := eq_false (by omega)
  have hs5 : (lo = c1) = False := eq_false (by omega)
  have HK0 := Lib.hid K0
  clear hr ho r0 r1 r2 r3 hlo2 b0 K0
  generalize (refV d (some ⟨q, 0, none⟩) A2 c1 c2).toArray = cs at *
  generalize hbl2 : d.bits.length = bl at *
  go_enter Try.func40, Try.ntmps40
  go_wp2
  go_ret
  rw [HHI.out]
  exact ⟨_, _, rfl, HRD.out.keep0 HK0.out, HK0.out⟩
/-- Rows apart from a block of another kind. -/
theorem ROwn.keepLt8 {base : Nat} {F G : List Nat} {w w' : World} {A1 A2 : Option Addr} {c1 c2 : Nat} {d : Dev} (h : ROwn base F w A1 A2 c1 c2 d) (k : Keep G w w') (h1 : ∀ y, (Value.slice A1 d.bits.length c1).ownBlock = some y → y ∉ G) (h2 : ∀ y, (Value.slice A2 d.worn.length c2).ownBlock = some y → y ∉ G) :
    ROwn base F w' A1 A2 c1 c2 d := ⟨own_keep h.bits k h1, own_keep h.worn k h2, h.off1, h.off2⟩
theorem ROwn.keepBlk {base : Nat} {F : List Nat} {w w' : World} {A1 A2 : Option Addr} {c1 c2 : Nat} {d : Dev} (h : ROwn base F w A1 A2 c1 c2 d) {g t : Nat} {cs : Array Value} (hb : Blk w g t cs) (ht1 : 33 ≠ t) (ht2 : 3 ≠ t) (k : Keep [g] w w') : ROwn base F w' A1 A2 c1 c2 d :=
  h.keepLt8 k (fun y hy hm => by simp only [List.mem_cons, List.not_mem_nil, or_false] at hm; subst hm; exact own_blk_ne h.bits hb ht1 hy) (fun y hy hm => by simp only [List.mem_cons, List.not_mem_nil, or_false] at hm; subst hm; exact own_blk_ne h.worn hb ht2 hy)

/-- What the document's program does: words one behind the other. -/
def progsD (d : Dev) (σ fr : Nat) : List Nat → Dev × Int
  | [] => (d, 0)
  | x :: l => if (progS d ((σ + fr / d.nw : Nat) : Int) ((fr % d.nw : Nat) : Int) x).2 = 0 then progsD (progS d ((σ + fr / d.nw : Nat) : Int) ((fr % d.nw : Nat) : Int) x).1 σ (fr + 1) l else progS d ((σ + fr / d.nw : Nat) : Int) ((fr % d.nw : Nat) : Int) x
theorem progsD_one (d : Dev) (σ fr x : Nat) : progsD d σ fr [x] = progS d ((σ + fr / d.nw : Nat) : Int) ((fr % d.nw : Nat) : Int) x := by
  rw [progsD]
  split
  · rename_i h0
    show ((progS d ((σ + fr / d.nw : Nat) : Int) ((fr % d.nw : Nat) : Int) x).1, (0 : Int)) = _
    rw [← h0]
  · rfl
theorem progsD_app : ∀ (l r : List Nat) (d d' : Dev) (σ fr : Nat), progsD d σ fr l = (d', 0) → progsD d σ fr (l ++ r) = progsD d' σ (fr + l.length) r
  | [], r, d, d', σ, fr, h => by
    have h1 : d = d' := congrArg Prod.fst h
    subst h1
    rfl
  | x :: l, r, d, d', σ, fr, h => by
    rw [progsD] at h
    rw [List.cons_append, progsD]
    split at h
    · rename_i h0
      rw [if_pos h0, progsD_app l r _ d' σ (fr + 1) h]
      congr 1
      rw [List.length_cons]
      omega
    · rename_i h0
      exact absurd (congrArg Prod.snd h) h0
theorem progsD_stop : ∀ (l r : List Nat) (d d' : Dev) (σ fr : Nat) (e : Int), progsD d σ fr l = (d', e) → e ≠ 0 → progsD d σ fr (l ++ r) = (d', e)
  | [], r, d, d', σ, fr, e, h, he => absurd (congrArg Prod.snd h).symm he
  | x :: l, r, d, d', σ, fr, e, h, he => by
    rw [progsD] at h
    rw [List.cons_append, progsD]
    split at h
    · rename_i h0
      rw [if_pos h0]
      exact progsD_stop l r _ d' σ (fr + 1) e h he
    · rename_i h0
      rw [if_neg h0]
      exact h

set_option maxRecDepth 100000 in
set_option maxHeartbeats 8000000 in
theorem program_any08 (base : Nat) (F : List Nat) (A1 A2 : Option Addr) (c1 c2 : Nat) (d : Dev) (σ fr : Nat) (A : Option Addr) (n c : Nat) (l : List Nat) (w : World) (hr : ROwn base F w A1 A2 c1 c2 d) (ho : d.Ok) (hF : ∀ x ∈ F, x < w.heap.size) (hbase : base ≤ w.heap.size)
    (hσ : σ ≤ 64) (hfr : fr + n ≤ 100000) (hl : l.length = n) (h32 : ∀ x ∈ l, x < 4294967296) (hrd : Reads w 1 A n (wordsV l)) :
    Calls Try.prog 122 #[.agg (refV d A1 A2 c1 c2).toArray, .int .i64 (σ : Int), .int .i64 (fr : Int), .slice A n c] w (RetRef base F w (progsD d σ fr l).1 (progsD d σ fr l).2) := by
  obtain ⟨b0, b1, k1, hsz⟩ := box2_facts w (refV d A1 A2 c1 c2)
  have HW : Hid ((w.alloc (.cells (refV d A1 A2 c1 c2).toArray 57)).alloc (.cells zeroD 57) = box2 w (refV d A1 A2 c1 c2)) := show _ = _ from rfl
  generalize box2 w (refV d A1 A2 c1 c2) = W at *
  have HA : Hid (AggOf Try.prog 57 10) := agg_ref
  have HB0 := Lib.hid b0
  have HB1 := Lib.hid b1
  have HK1 := Lib.hid k1
  have HR := Lib.hid (hr.keep0 k1)
  have HO := Lib.hid ho
  have HL := Lib.hid hl
  have H32 := Lib.hid h32
  have HRD := Lib.hid hrd
  have HFF := Lib.hid hF
  obtain ⟨res, hres⟩ : ∃ r, progsD d σ fr l = r := ⟨_, rfl⟩
  have HRS := Lib.hid hres
  rw [hres]
  clear b0 b1 k1 hr ho hl h32 hrd hF hres
  go_enter Try.func122, Try.ntmps122
  go_wp2_with (rw [HW.out])
  clear HW
  go_loopw [10, 11] (fun v10 v11 wr => ∃ (k : Nat) (dk : Dev) (ek : Int) (A1k A2k : Option Addr) (c1k c2k : Nat), k ≤ n ∧ v11 = .int .i64 (k : Int) ∧ v10 = .int .i64 ek ∧ ((ek = 0 ∧ progsD d σ fr (l.take k) = (dk, 0)) ∨ (ek ≠ 0 ∧ progsD d σ fr l = (dk, ek))) ∧ dk.Ok ∧ DimsJ d dk ∧
    Blk wr w.heap.size 57 (refV dk A1k A2k c1k c2k).toArray ∧ ROwn base F wr A1k A2k c1k c2k dk ∧ Blk wr (w.heap.size + 1) 57 zeroD ∧ Keep [w.heap.size] W wr) (fun _ v11 _ => n - (intOf v11).toNat)
  case atStart => exact ⟨0, d, 0, A1, A2, c1, c2, Nat.zero_le _, rfl, rfl, .inl ⟨rfl, rfl⟩, HO.out, DimsJ.refl d, HB0.out, HR.out, HB1.out, (Keep.refl [] W).mono (by simp)⟩
  case round =>
    obtain ⟨k, dk, ek, A1k, A2k, c1k, c2k, hk, rfl, rfl, hst, hok, hdm, hb, hro, hb8, hkp⟩ := hrel
    have HHB := Lib.hid hb
    have HRO := Lib.hid hro
    have HB8 := Lib.hid hb8
    have HKP := Lib.hid hkp
    have HST := Lib.hid hst
    have HOK := Lib.hid hok
    have HDM := Lib.hid hdm
    have hszr := hkp.size
    by_cases hgo : k < n ∧ ek = 0
    · obtain ⟨hlt, rfl⟩ := hgo
      have hp : progsD d σ fr (l.take k) = (dk, 0) := by
        rcases hst with ⟨_, h⟩ | ⟨h, _⟩
        · exact h
        · exact absurd rfl h
      have hkl : k < l.length := by rw [HL.out]; exact hlt
      have hx32 := H32.out l[k] (List.getElem_mem hkl)
      have hlk : (l.take k).length = k := by rw [List.length_take]; omega
      have HTK : Hid (l.take (k + 1) = l.take k ++ [l[k]]) := List.take_succ_eq_append_getElem hkl
      have HTD : Hid (∃ r, l = (l.take k ++ [l[k]]) ++ r) := ⟨l.drop (k + 1), by rw [← List.take_succ_eq_append_getElem hkl, List.take_append_drop]⟩
      obtain ⟨bo, oo, rfl, hbo, hcs⟩ := HRD.out.addr (by omega)
      have hx : W.cell? ⟨bo, oo + k, none⟩ = some (.int .u32 (l[k] : Int)) := (HK1.out.cell (p := ⟨bo, oo + k, none⟩) hbo (by simp)).trans (hcs k _ (by rw [List.getElem?_map, List.getElem?_eq_getElem hkl]; rfl))
      have hbow : bo ≠ w.heap.size := by omega
      have hbW : bo < W.heap.size := by omega
      have HAP := Lib.hid (progsD_app (l.take k) [l[k]] d dk σ fr hp)
      rw [hlk, progsD_one] at HAP
      have hnw1 := hok.nw1
      have hnw2 := hok.nw2
      generalize hxx : l[k] = x at *
      have hxr : wr.cell? ⟨bo, oo + k, none⟩ = some (.int .u32 (x : Int)) := (hkp.cell (p := ⟨bo, oo + k, none⟩) hbW (by simp only [List.mem_cons, List.not_mem_nil, or_false]; exact hbow)).trans hx
      have hX : ∀ W', Keep [] wr W' → W'.cell? ⟨bo, oo + k, none⟩ = some (.int .u32 (x : Int)) ∧ W'.cell? ⟨w.heap.size, 1, none⟩ = some (.int .i64 (dk.nw : Int)) ∧ True := fun W' kk => by
        refine ⟨(kk.cell (p := ⟨bo, oo + k, none⟩) (by show bo < wr.heap.size; omega) (by simp)).trans hxr, ?_, trivial⟩
        have := (HHB.out.keep0 kk).cell 1
        rw [(ref_cells dk A1k A2k c1k c2k).2.1] at this
        exact this
      have HCC : Hid (∀ W', Keep [] wr W' → CellsAt W' w.heap.size 0 (refV dk A1k A2k c1k c2k)) := fun W' kk => (HHB.out.keep0 kk).cellsAt
      obtain ⟨at_, hat⟩ : ∃ a, fr + k = a := ⟨_, rfl⟩
      rw [hat] at HAP
      have hat1 : at_ ≤ 100000 := by omega
      have hwat : IntKind.i64.wrap ((fr : Int) + (k : Int)) = (at_ : Int) := by rw [show (fr : Int) + (k : Int) = (at_ : Int) by omega]; exact IntWalk.i64_in _ (by omega)
      have hle : at_ / dk.nw ≤ at_ := Nat.div_le_self _ _
      have hq : (at_ : Int).tdiv (dk.nw : Int) = ((at_ / dk.nw : Nat) : Int) := by rw [Int.tdiv_eq_ediv_of_nonneg (by omega)]; norm_cast
      have hr : (at_ : Int).tmod (dk.nw : Int) = ((at_ % dk.nw : Nat) : Int) := by rw [Int.tmod_eq_emod_of_nonneg (by omega)]; norm_cast
      have hz0 : ((dk.nw : Int) == 0) = false := beq_eq_false_iff_ne.2 (by omega)
      have hz1 : ((dk.nw : Int) = 0) = False := eq_false (by omega)
      have hz2 : (dk.nw = 0) = False := eq_false (by omega)
      have hrle : at_ % dk.nw ≤ 100000 := by have := Nat.mod_le at_ dk.nw; omega
      have HPC : Hid (∀ W', Keep [] wr W' → Calls Try.prog 119 #[.agg (refV dk A1k A2k c1k c2k).toArray, .int .i64 ((σ + at_ / dk.nw : Nat) : Int), .int .i64 ((at_ % dk.nw : Nat) : Int), .int .u32 (x : Int)] W' (RetRef base F W' (progS dk ((σ + at_ / dk.nw : Nat) : Int) ((at_ % dk.nw : Nat) : Int) x).1 (progS dk ((σ + at_ / dk.nw : Nat) : Int) ((at_ % dk.nw : Nat) : Int) x).2)) := fun W' kk => by
        have hsz' := kk.size
        exact rprog_any base F A1k A2k c1k c2k dk W' (HRO.out.keep0 kk) HOK.out (fun y hy => by have := HFF.out y hy; omega) (by omega) _ _ x hx32
      have HO5 : Hid ((progS dk ((σ + at_ / dk.nw : Nat) : Int) ((at_ % dk.nw : Nat) : Int) x).1.Ok) := progS_ok HOK.out _ _ x hx32
      have HD5 : Hid (DimsJ d (progS dk ((σ + at_ / dk.nw : Nat) : Int) ((at_ % dk.nw : Nat) : Int) x).1) := HDM.out.trans (prog_dims _ _ _ _)
      generalize at_ / dk.nw = pq at *
      generalize at_ % dk.nw = pr at *
      have hwq : IntKind.i64.wrap (pq : Int) = (pq : Int) := IntWalk.i64_in _ (by omega)
      have hws : IntKind.i64.wrap ((σ : Int) + (pq : Int)) = ((σ + pq : Nat) : Int) := by rw [show (σ : Int) + (pq : Int) = ((σ + pq : Nat) : Int) by omega]; exact IntWalk.i64_in _ (by omega)
      have hwk : IntKind.i64.wrap ((k : Int) + 1) = ((k + 1 : Nat) : Int) := by rw [show (k : Int) + 1 = ((k + 1 : Nat) : Int) by omega]; exact IntWalk.i64_in _ (by omega)
      obtain ⟨d5, e5, hp5⟩ : ∃ d5 e5, progS dk ((σ + pq : Nat) : Int) (pr : Int) x = (d5, e5) := ⟨_, _, rfl⟩
      rw [hp5] at HPC HO5 HD5 HAP
      dsimp only at HPC HO5 HD5
      have hki : (k : Int) < (n : Int) := by omega
      have hki0 : (0 : Int) ≤ (k : Int) := by omega
      clear hst hp hb hro hb8 hkp hok hdm hp5 hcs hx hxr hlk hxx
      go_upto_region 6 with fail
      refine ap_begin 15 (Keep [] wr) rfl (Keep.refl _ _).drew (fun hS hPan => ?_) (fun _ _ d _ _ h => by cases d <;> exact h)
      refine ap_agg 0 57 (.tmp 4) (refV dk A1k A2k c1k c2k) rfl (by kernel_rfl) (by kernel_rfl) (by kernel_rfl) (by kernel_rfl) (by rfl) hPan rfl rfl HA.out HCC.out hS ?_
      (simp only [Act.put, List.setIfInBounds_toArray, List.set_cons_zero, List.set_cons_succ])
      (refine ap_val (v := ?_) 1 rfl (by kernel_rfl) (by kernel_rfl) (by kernel_rfl) (by kernel_rfl) (by rfl) hPan ?_ hS ?_; rotate_left; (intro w' hSw; go_simp; try with_reducible rfl); simp only [Act.put, List.setIfInBounds_toArray, List.set_cons_zero, List.set_cons_succ])
      (refine ap_val (v := ?_) 2 rfl (by kernel_rfl) (by kernel_rfl) (by kernel_rfl) (by kernel_rfl) (by rfl) hPan ?_ hS ?_; rotate_left; (intro w' hSw; go_simp; try with_reducible rfl); simp only [Act.put, List.setIfInBounds_toArray, List.set_cons_zero, List.set_cons_succ])
      (refine ap_val (v := ?_) 3 rfl (by kernel_rfl) (by kernel_rfl) (by kernel_rfl) (by kernel_rfl) (by rfl) hPan ?_ hS ?_; rotate_left; (intro w' hSw; go_simp; try with_reducible rfl); simp only [Act.put, List.setIfInBounds_toArray, List.set_cons_zero, List.set_cons_succ])
      (refine ap_val (v := ?_) 4 rfl (by kernel_rfl) (by kernel_rfl) (by kernel_rfl) (by kernel_rfl) (by rfl) hPan ?_ hS ?_; rotate_left; (intro w' hSw; obtain ⟨f0,f1,f2⟩ := hX w' hSw; go_simp; try with_reducible rfl); simp only [Act.put, List.setIfInBounds_toArray, List.set_cons_zero, List.set_cons_succ])
      (refine ap_val (v := ?_) 5 rfl (by kernel_rfl) (by kernel_rfl) (by kernel_rfl) (by kernel_rfl) (by rfl) hPan ?_ hS ?_; rotate_left; (intro w' hSw; go_simp; try with_reducible rfl); simp only [Act.put, List.setIfInBounds_toArray, List.set_cons_zero, List.set_cons_succ])
      (refine ap_val (v := ?_) 6 rfl (by kernel_rfl) (by kernel_rfl) (by kernel_rfl) (by kernel_rfl) (by rfl) hPan ?_ hS ?_; rotate_left; (intro w' hSw; go_simp; try with_reducible rfl); simp only [Act.put, List.setIfInBounds_toArray, List.set_cons_zero, List.set_cons_succ])
      (refine ap_val (v := ?_) 7 rfl (by kernel_rfl) (by kernel_rfl) (by kernel_rfl) (by kernel_rfl) (by rfl) hPan ?_ hS ?_; rotate_left; (intro w' hSw; go_simp; try with_reducible rfl); simp only [Act.put, List.setIfInBounds_toArray, List.set_cons_zero, List.set_cons_succ])
      (refine ap_val (v := ?_) 8 rfl (by kernel_rfl) (by kernel_rfl) (by kernel_rfl) (by kernel_rfl) (by rfl) hPan ?_ hS ?_; rotate_left; (intro w' hSw; go_simp; try with_reducible rfl); simp only [Act.put, List.setIfInBounds_toArray, List.set_cons_zero, List.set_cons_succ])
      (refine ap_val (v := ?_) 9 rfl (by kernel_rfl) (by kernel_rfl) (by kernel_rfl) (by kernel_rfl) (by rfl) hPan ?_ hS ?_; rotate_left; (intro w' hSw; obtain ⟨f0,f1,f2⟩ := hX w' hSw; go_simp; try with_reducible rfl); simp only [Act.put, List.setIfInBounds_toArray, List.set_cons_zero, List.set_cons_succ])
      (refine ap_val (v := ?_) 10 rfl (by kernel_rfl) (by kernel_rfl) (by kernel_rfl) (by kernel_rfl) (by rfl) hPan ?_ hS ?_; rotate_left; (intro w' hSw; go_simp; try with_reducible rfl); simp only [Act.put, List.setIfInBounds_toArray, List.set_cons_zero, List.set_cons_succ])
      (refine ap_val (v := ?_) 11 rfl (by kernel_rfl) (by kernel_rfl) (by kernel_rfl) (by kernel_rfl) (by rfl) hPan ?_ hS ?_; rotate_left; (intro w' hSw; go_simp; try with_reducible rfl); simp only [Act.put, List.setIfInBounds_toArray, List.set_cons_zero, List.set_cons_succ])
      (refine ap_val (v := ?_) 12 rfl (by kernel_rfl) (by kernel_rfl) (by kernel_rfl) (by kernel_rfl) (by rfl) hPan ?_ hS ?_; rotate_left; (intro w' hSw; go_simp; try with_reducible rfl); simp only [Act.put, List.setIfInBounds_toArray, List.set_cons_zero, List.set_cons_succ])
      (refine ap_val (v := ?_) 13 rfl (by kernel_rfl) (by kernel_rfl) (by kernel_rfl) (by kernel_rfl) (by rfl) hPan ?_ hS ?_; rotate_left; (intro w' hSw; go_simp; try with_reducible rfl); simp only [Act.put, List.setIfInBounds_toArray, List.set_cons_zero, List.set_cons_succ])
      (refine ap_val (v := ?_) 14 rfl (by kernel_rfl) (by kernel_rfl) (by kernel_rfl) (by kernel_rfl) (by rfl) hPan ?_ hS ?_; rotate_left; (intro w' hSw; obtain ⟨f0,f1,f2⟩ := hX w' hSw; go_simp; try with_reducible rfl); simp only [Act.put, List.setIfInBounds_toArray, List.set_cons_zero, List.set_cons_succ])
      generalize wr.drew = wd at *
      refine ap_one 15 (by kernel_rfl) ?_
      refine op_call (f := 119) (vs := #[.agg (refV dk A1k A2k c1k c2k).toArray, .int .i64 ((σ + pq : Nat) : Int), .int .i64 (pr : Int), .int .u32 (x : Int)]) 15 rfl (by kernel_rfl) rfl (by simp only [List.map_toArray, List.map_cons, List.map_nil]; rfl) Try.func119 (by kernel_rfl) (by kernel_rfl) (HPC.out wd hS) ?_
      rintro e w5 ⟨A1', A2', c1', c2', rfl, hro5, k5⟩
      refine ⟨_, rfl, fun h => (by cases h), ?_⟩
      (simp only [Act.put, List.setIfInBounds_toArray, List.set_cons_zero, List.set_cons_succ])
      have K5 := hS.then k5
      have HB5 := Lib.hid (HHB.out.keep0 K5)
      have HB85 := Lib.hid (HB8.out.keep0 K5)
      have HRO5 := Lib.hid hro5
      have HK5 := Lib.hid (HKP.out.then K5)
      have HFIN : Hid (∀ w9, Blk w9 w.heap.size 57 (refV d5 A1' A2' c1' c2').toArray → Keep [w.heap.size] w5 w9 → ROwn base F w9 A1' A2' c1' c2' d5 ∧ Blk w9 (w.heap.size + 1) 57 zeroD ∧ Keep [w.heap.size] W w9) := fun w9 d9 k9 => ⟨HRO5.out.keepBlk HB5.out (by decide) (by decide) k9, HB85.out.keep k9 (by simp), HK5.out.trans k9 (fun y hy _ => hy)⟩
      have HST5 : Hid ((e5 = 0 ∧ progsD d σ fr (l.take (k + 1)) = (d5, 0)) ∨ (e5 ≠ 0 ∧ progsD d σ fr l = (d5, e5))) := by
        show _ ∨ _
        by_cases h5 : e5 = 0
        · exact .inl ⟨h5, by rw [HTK.out, HAP.out, h5]⟩
        · refine .inr ⟨h5, ?_⟩
          obtain ⟨r, hrr⟩ := HTD.out
          rw [hrr]
          exact progsD_stop _ r _ _ _ _ _ HAP.out h5
      clear hS hPan k5 K5 hro5 hX HPC HCC HAP HTK HTD HHB HB8 HRO HKP HOK HDM HST
      refine ap_one 16 (by kernel_rfl) ?_
      refine op_run (v := (.tuple #[.agg (refV d5 A1' A2' c1' c2').toArray, .int .i64 e5])) (w' := w5) 16 rfl (by kernel_rfl) (by go_simp) ?_
      refine ⟨fun h => (by cases h), ?_⟩
      (simp only [Act.put, List.setIfInBounds_toArray, List.set_cons_zero, List.set_cons_succ])
      refine ap_twoJ 17 18 (by kernel_rfl) ?x1 ?y1
      case x1 =>
        refine op_run (v := (.agg (refV d5 A1' A2' c1' c2').toArray)) (w' := w5) 17 rfl (by kernel_rfl) (by go_simp) ?_
        refine ⟨fun h => (by cases h), ?_⟩
        (simp only [Act.put, List.setIfInBounds_toArray, List.set_cons_zero, List.set_cons_succ])
        refine ap_twoJ 18 19 (by kernel_rfl) ?x2 ?y2
        case x2 =>
          refine op_run (v := (.int .i64 e5)) (w' := w5) 18 rfl (by kernel_rfl) (by go_simp) ?_
          refine ⟨fun h => (by cases h), ?_⟩
          (simp only [Act.put, List.setIfInBounds_toArray, List.set_cons_zero, List.set_cons_succ])
          refine ap_one 19 (by kernel_rfl) ?_
          refine op_store_all (t := 57) (cs := (refV dk A1k A2k c1k c2k).toArray) (vs := refV d5 A1' A2' c1' c2') 19 rfl (by kernel_rfl) rfl rfl rfl HA.out.2 HB5.out (refV_one _ _ _ _ _) rfl ?_
          intro w9 d9 k9
          refine ⟨fun h => (by cases h), ?_⟩
          (simp only [Act.put, List.setIfInBounds_toArray, List.set_cons_zero, List.set_cons_succ])
          refine ap_one 20 (by kernel_rfl) ?_
          refine op_run (v := (.int .i64 e5)) (w' := w9) 20 rfl (by kernel_rfl) (by go_simp) ?_
          refine ⟨fun h => (by cases h), ap_done (by kernel_rfl) ?_ _⟩
          (simp only [Act.put, List.setIfInBounds_toArray, List.set_cons_zero, List.set_cons_succ])
          have HD9 := Lib.hid d9
          have HF9 := Lib.hid (HFIN.out w9 d9 k9)
          clear d9 k9
          go_wp2
          go_roundw
          case rel => exact ⟨k + 1, d5, e5, A1', A2', c1', c2', by omega, by go_num, rfl, HST5.out, HO5.out, HD5.out, HD9.out, HF9.out.1, HF9.out.2.1, HF9.out.2.2⟩
          case measure => simp [intOf]; omega
        case y2 =>
          refine op_store_all (t := 57) (cs := (refV dk A1k A2k c1k c2k).toArray) (vs := refV d5 A1' A2' c1' c2') 19 rfl (by kernel_rfl) rfl rfl rfl HA.out.2 HB5.out (refV_one _ _ _ _ _) rfl ?_
          intro w9 d9 k9
          refine ⟨fun h => (by cases h), ?_⟩
          (simp only [Act.put, List.setIfInBounds_toArray, List.set_cons_zero, List.set_cons_succ])
          refine ap_one 18 (by kernel_rfl) ?_
          refine op_run (v := (.int .i64 e5)) (w' := w9) 18 rfl (by kernel_rfl) (by go_simp) ?_
          refine ⟨fun h => (by cases h), ?_⟩
          (simp only [Act.put, List.setIfInBounds_toArray, List.set_cons_zero, List.set_cons_succ])
          refine ap_one 20 (by kernel_rfl) ?_
          refine op_run (v := (.int .i64 e5)) (w' := w9) 20 rfl (by kernel_rfl) (by go_simp) ?_
          refine ⟨fun h => (by cases h), ap_done (by kernel_rfl) ?_ _⟩
          (simp only [Act.put, List.setIfInBounds_toArray, List.set_cons_zero, List.set_cons_succ])
          have HD9 := Lib.hid d9
          have HF9 := Lib.hid (HFIN.out w9 d9 k9)
          clear d9 k9
          go_wp2
          go_roundw
          case rel => exact ⟨k + 1, d5, e5, A1', A2', c1', c2', by omega, by go_num, rfl, HST5.out, HO5.out, HD5.out, HD9.out, HF9.out.1, HF9.out.2.1, HF9.out.2.2⟩
          case measure => simp [intOf]; omega
      case y1 =>
        refine op_run (v := (.int .i64 e5)) (w' := w5) 18 rfl (by kernel_rfl) (by go_simp) ?_
        refine ⟨fun h => (by cases h), ?_⟩
        (simp only [Act.put, List.setIfInBounds_toArray, List.set_cons_zero, List.set_cons_succ])
        refine ap_one 17 (by kernel_rfl) ?_
        refine op_run (v := (.agg (refV d5 A1' A2' c1' c2').toArray)) (w' := w5) 17 rfl (by kernel_rfl) (by go_simp) ?_
        refine ⟨fun h => (by cases h), ?_⟩
        (simp only [Act.put, List.setIfInBounds_toArray, List.set_cons_zero, List.set_cons_succ])
        refine ap_one 19 (by kernel_rfl) ?_
        refine op_store_all (t := 57) (cs := (refV dk A1k A2k c1k c2k).toArray) (vs := refV d5 A1' A2' c1' c2') 19 rfl (by kernel_rfl) rfl rfl rfl HA.out.2 HB5.out (refV_one _ _ _ _ _) rfl ?_
        intro w9 d9 k9
        refine ⟨fun h => (by cases h), ?_⟩
        (simp only [Act.put, List.setIfInBounds_toArray, List.set_cons_zero, List.set_cons_succ])
        refine ap_one 20 (by kernel_rfl) ?_
        refine op_run (v := (.int .i64 e5)) (w' := w9) 20 rfl (by kernel_rfl) (by go_simp) ?_
        refine ⟨fun h => (by cases h), ap_done (by kernel_rfl) ?_ _⟩
        (simp only [Act.put, List.setIfInBounds_toArray, List.set_cons_zero, List.set_cons_succ])
        have HD9 := Lib.hid d9
        have HF9 := Lib.hid (HFIN.out w9 d9 k9)
        clear d9 k9
        go_wp2
        go_roundw
        case rel => exact ⟨k + 1, d5, e5, A1', A2', c1', c2', by omega, by go_num, rfl, HST5.out, HO5.out, HD5.out, HD9.out, HF9.out.1, HF9.out.2.1, HF9.out.2.2⟩
        case measure => simp [intOf]; omega
    · have HRS2 : Hid (res = (dk, ek)) := by
        show _ = _
        rw [← HRS.out]
        rcases hst with ⟨h0, h⟩ | ⟨h0, h⟩
        · have hkn : k = n := by
            have : ¬ k < n := fun h => hgo ⟨h, h0⟩
            omega
          rw [hkn, ← HL.out, List.take_length] at h
          rw [h, h0]
        · exact h
      clear hst hok hdm hb hro hb8 hkp HRS
      by_cases hlt : k < n
      · have hek : ek ≠ 0 := fun h => hgo ⟨hlt, h⟩
        have q0 : decide ((k : Int) < (n : Int)) = true := decide_eq_true (by omega)
        have r0 := eq_true hlt
        have q1 : (ek == 0) = false := beq_eq_false_iff_ne.2 hek
        have q2 : (ek = 0) = False := eq_false hek
        clear hgo
        go_wp2_with (first
          | (refine wpList_load_agg rfl 57 (.tmp 4) rfl rfl (cs := refV dk A1k A2k c1k c2k) HA.out ?_ ?_; exact HHB.out.cellsAt)
          | (refine wpList_store_all rfl 57 (.tmp 8) (.tmp 45) rfl rfl rfl (t := 57) (cs := zeroD) (vs := refV dk A1k A2k c1k c2k) HA.out.2 ?_ (refV_one _ _ _ _ _) rfl ?_; exact HB8.out; intro w2 d2 k2))
        refine bodyPost_ret (results_blk_tmp rfl _ rfl rfl d2 HA.out) rfl ?_
        rw [HRS2.out]
        exact ⟨_, _, _, _, rfl, HRO.out.keepBlk HB8.out (by decide) (by decide) k2, (HK1.out.trans ((HKP.out.mono (G := [w.heap.size, w.heap.size + 1]) (by simp)).trans k2 (fun y hy _ => by simp only [List.mem_cons, List.not_mem_nil, or_false] at hy ⊢; omega)) (fun y hy hl => by simp only [List.mem_cons, List.not_mem_nil, or_false] at hy; omega))⟩
      · have q0 : decide ((k : Int) < (n : Int)) = false := decide_eq_false (by omega)
        have r0 := eq_false hlt
        clear hgo
        go_wp2_with (first
          | (refine wpList_load_agg rfl 57 (.tmp 4) rfl rfl (cs := refV dk A1k A2k c1k c2k) HA.out ?_ ?_; exact HHB.out.cellsAt)
          | (refine wpList_store_all rfl 57 (.tmp 8) (.tmp 45) rfl rfl rfl (t := 57) (cs := zeroD) (vs := refV dk A1k A2k c1k c2k) HA.out.2 ?_ (refV_one _ _ _ _ _) rfl ?_; exact HB8.out; intro w2 d2 k2))
        refine bodyPost_ret (results_blk_tmp rfl _ rfl rfl d2 HA.out) rfl ?_
        rw [HRS2.out]
        exact ⟨_, _, _, _, rfl, HRO.out.keepBlk HB8.out (by decide) (by decide) k2, (HK1.out.trans ((HKP.out.mono (G := [w.heap.size, w.heap.size + 1]) (by simp)).trans k2 (fun y hy _ => by simp only [List.mem_cons, List.not_mem_nil, or_false] at hy ⊢; omega)) (fun y hy hl => by simp only [List.mem_cons, List.not_mem_nil, or_false] at hy; omega))⟩
end Go.Proofs.Yteanpgkonhdbpaa

namespace Go.Proofs.Yteanpgkonhdbpaa
open Go.RowKit

/-- A header's words as far as it is: committed, and confirmed or not. -/
def wordsH (q n c : Nat) (cf : Bool) : List Nat := [q, cplJ q, n, cplJ n, c, cplJ c, 1668246893, cplJ 1668246893, if cf then 1668247142 else 4294967295, if cf then cplJ 1668247142 else 4294967295, 4294967295, 4294967295, 4294967295]

set_option maxRecDepth 100000 in
set_option maxHeartbeats 4000000 in
theorem hwords_any (q n c : Nat) (cf : Bool) (w : World) (hq : q < 4294967296) (hn : n < 4294967296) (hc : c < 4294967296) :
    Calls Try.prog 121 #[.int .u32 (q : Int), .int .u32 (n : Int), .int .u32 (c : Int), .bool true, .bool cf] w fun e w' => ∃ A cap, e = .returned (.slice A 13 cap) ∧ w'.ownsRow w.heap.size 33 1 (.slice A 13 cap) 13 (wordsV (wordsH q n c cf)) ∧ Keep [] w w' := by
  have HQ := fun W => Lib.hid (other_any q W hq)
  have HN := fun W => Lib.hid (other_any n W hn)
  have HC := fun W => Lib.hid (other_any c W hc)
  have HM := fun W => Lib.hid (other_any 1668246893 W (by decide))
  have HF := fun W => Lib.hid (other_any 1668247142 W (by decide))
  have HWH : Hid (∀ q' n' c', [q, q', n, n', c, c'] ++ List.replicate 7 4294967295 = [q, q', n, n', c, c', 4294967295, 4294967295, 4294967295, 4294967295, 4294967295, 4294967295, 4294967295]) := fun _ _ _ => rfl
  have HWD : Hid (wordsH q n c cf = [q, cplJ q, n, cplJ n, c, cplJ c, 1668246893, cplJ 1668246893, if cf then 1668247142 else 4294967295, if cf then cplJ 1668247142 else 4294967295, 4294967295, 4294967295, 4294967295]) := show _ = _ from rfl
  generalize wordsH q n c cf = res at *
  generalize cplJ q = q' at *
  generalize cplJ n = n' at *
  generalize cplJ c = c' at *
  clear hq hn hc
  go_enter Try.func121, Try.ntmps121
  go_wp2_with (first
    | (refine (HQ _).out.mono ?_; rintro e w2 ⟨rfl, rfl⟩)
    | (refine (HN _).out.mono ?_; rintro e w2 ⟨rfl, rfl⟩)
    | (refine (HC _).out.mono ?_; rintro e w2 ⟨rfl, rfl⟩))
  go_loopw [11, 12] (fun v vi wr => ∃ k : Nat, k ≤ 7 ∧ vi = .int .i64 ((6 + k : Nat) : Int) ∧ wr.ownsRow w.heap.size 33 1 v (6 + k) (wordsV ([q, q', n, n', c, c'] ++ List.replicate k 4294967295)) ∧ Keep [] w wr) (fun _ vi _ => 13 - (intOf vi).toNat)
  case atStart =>
    refine ⟨0, Nat.zero_le _, rfl, ⟨rfl, .inr ⟨w.heap.size, 6, _, rfl, Nat.le_refl _, Blk.new _ _ _, Nat.le_refl _, by unfold maxLen; omega, rfl, rfl⟩⟩, (Keep.refl [] w).alloc _⟩
  case round =>
    obtain ⟨k, hk, rfl, hrow, hkp⟩ := hrel
    by_cases hlt : k < 7
    · have hsz := hkp.size
      have hlen : ([q, q', n, n', c, c'] ++ List.replicate k 4294967295).length = 6 + k := by simp; omega
      have q0 : decide (((6 + k : Nat) : Int) < 13) = true := decide_eq_true (by omega)
      have q1 : (6 + k < 13) = True := eq_true (by omega)
      have q2 : ((6 : Int) + (k : Int) < 13) = True := eq_true (by omega)
      have hwk : IntKind.i64.wrap (((6 + k : Nat) : Int) + 1) = ((6 + (k + 1) : Nat) : Int) := by rw [show ((6 + k : Nat) : Int) + 1 = ((6 + (k + 1) : Nat) : Int) by omega]; exact IntWalk.i64_in _ (by omega)
      have hlto := hrow.lt
      generalize hm : 6 + k = m at *
      go_wp2_with (at_builtin; refine wpList_append_one rfl (.tmp 27) (.tmp 28) 54 rfl slice_u32 hrow rfl rfl (us := [.int .u32 4294967295]) rfl (by simp [Value.oneCell']) hsz (by omega) (by unfold maxLen; omega) ?_; intro v' w1 hown1 hgrow1 hat1)
      have HO1 : Hid (w1.ownsRow w.heap.size 33 1 v' (6 + (k + 1)) (wordsV ([q, q', n, n', c, c'] ++ List.replicate (k + 1) 4294967295))) := by
        show World.ownsRow _ _ _ _ _ _ _
        rw [List.replicate_succ', ← List.append_assoc, wordsV, List.map_append]
        rw [show 6 + (k + 1) = m + 1 by omega]
        exact hown1
      have HK1 : Hid (Keep [] w w1) := hkp.trans hgrow1 (fun y hy hl => by
        have := (hlto y (by simpa using hy)).1
        omega)
      clear hown1 hgrow1 hat1 hrow hkp
      go_wp2
      go_roundw
      case rel => exact ⟨k + 1, by omega, by go_num, HO1.out, HK1.out⟩
      case measure => simp [intOf]; omega
    · obtain rfl : k = 7 := by omega
      rw [HWH.out] at hrow
      obtain ⟨g, cap, hv, hgb, hgl⟩ := hrow.form (by decide)
      subst hv
      have f6 := hrow.cellAt 6 (by decide)
      have z6 := hrow.frozenAt 6
      have z7 := hrow.frozenAt 7
      have z8 := hrow.frozenAt 8
      have z9 := hrow.frozenAt 9
      have f7 := hrow.cellAt 7 (by decide)
      have f8 := hrow.cellAt 8 (by decide)
      have f9 := hrow.cellAt 9 (by decide)
      simp only [wordsV, List.map_cons, List.map_nil, List.getElem?_cons_succ, List.getElem?_cons_zero] at f6 f7 f8 f9
      have HK := Lib.hid hkp
      have HG := Lib.hid hgb
      have o1 := (((hrow.stored 6 (.int .u32 1668246893)).1).stored 7 (.int .u32 ((cplJ 1668246893 : Nat) : Int))).1
      have hgk : ∀ W', Keep [g] wr W' → Keep [] w W' := fun W' kk => HK.out.trans kk (fun y hy hl => by have := HG.out; simp only [List.mem_cons, List.not_mem_nil, or_false] at hy; omega)
      have HGK := Lib.hid hgk
      cases cf with
      | false =>
        have HO1 := Lib.hid o1
        have HWD2 : Hid (res = [q, q', n, n', c, c', 1668246893, cplJ 1668246893, 4294967295, 4294967295, 4294967295, 4294967295, 4294967295]) := HWD.out
        clear hrow hkp o1 hgb hgk
        generalize hcm : cplJ 1668246893 = cm at *
        go_wp2_with (refine (HM _).out.mono ?_; rintro e w2 ⟨rfl, rfl⟩)
        go_ret
        refine ⟨_, _, rfl, ?_, HGK.out _ (((Keep.refl [] wr).mono (G := [g]) (by simp)).setCell (by simp) _ |>.setCell (by simp) _)⟩
        rw [HWD2.out]
        exact HO1.out
      | true =>
        have o2 := (((o1.stored 8 (.int .u32 1668247142)).1).stored 9 (.int .u32 ((cplJ 1668247142 : Nat) : Int))).1
        have HO2 := Lib.hid o2
        have HWD2 : Hid (res = [q, q', n, n', c, c', 1668246893, cplJ 1668246893, 1668247142, cplJ 1668247142, 4294967295, 4294967295, 4294967295]) := HWD.out
        clear hrow hkp o1 o2 hgb hgk
        generalize hcm : cplJ 1668246893 = cm at *
        generalize hcf : cplJ 1668247142 = cn at *
        go_wp2_with (first
          | (refine (HM _).out.mono ?_; rintro e w2 ⟨rfl, rfl⟩)
          | (refine (HF _).out.mono ?_; rintro e w2 ⟨rfl, rfl⟩))
        go_ret
        refine ⟨_, _, rfl, ?_, HGK.out _ (((((Keep.refl [] wr).mono (G := [g]) (by simp)).setCell (by simp) _ |>.setCell (by simp) _).setCell (by simp) _).setCell (by simp) _)⟩
        rw [HWD2.out]
        exact HO2.out
end Go.Proofs.Yteanpgkonhdbpaa

namespace Go.Proofs.Yteanpgkonhdbpaa
open Go.RowKit

/-- The document's bank: the device, whether words may be put, and those that were. -/
structure BenS where
  d : Dev
  opn : Bool
  put : List Nat
def benchV (g gb : Nat) (x : BenS) (A1 A2 : Option Addr) (c1 c2 : Nat) (Ap : Option Addr) (cp : Nat) : List Value :=
  .pointer (some ⟨g, 0, none⟩) :: .pointer (some ⟨gb, 0, none⟩) :: (refV x.d A1 A2 c1 c2 ++ [.bool x.opn, .slice Ap x.put.length cp])
abbrev zeroBen : Array Value := #[.pointer none, .pointer none, .int .i64 0, .int .i64 0, .int .i64 0, .slice none 0 0, .slice none 0 0, .bool false, .bool false, .int .i64 0, .int .u32 0, .int .i64 0, .bool false, .slice none 0 0]
theorem agg_ben : AggOf Try.prog 76 14 := ⟨by kernel_rfl, by kernel_rfl⟩
theorem benchV_one (g gb : Nat) (x : BenS) (A1 A2 : Option Addr) (c1 c2 : Nat) (Ap : Option Addr) (cp : Nat) : ∀ v ∈ benchV g gb x A1 A2 c1 c2 Ap cp, v.oneCell' = true := by
  intro v hv
  unfold benchV at hv
  simp only [List.mem_cons, List.mem_append, List.not_mem_nil, or_false] at hv
  rcases hv with rfl | rfl | h | rfl | rfl
  · rfl
  · rfl
  · exact refV_one _ _ _ _ _ v h
  · rfl
  · rfl
theorem bench_ref {w : World} {b g gb : Nat} {x : BenS} {A1 A2 : Option Addr} {c1 c2 : Nat} {Ap : Option Addr} {cp : Nat} (h : Blk w b 76 (benchV g gb x A1 A2 c1 c2 Ap cp).toArray) : CellsAt w b 2 (refV x.d A1 A2 c1 c2) := fun j u hu => by
  rw [h.cell]
  have hj : j < (refV x.d A1 A2 c1 c2).length := (List.getElem?_eq_some_iff.1 hu).1
  unfold benchV
  simp only [List.getElem?_toArray]
  rw [show 2 + j = j + 1 + 1 by omega, List.getElem?_cons_succ, List.getElem?_cons_succ, List.getElem?_append_left hj]
  exact hu
theorem bench_put_ref (g gb : Nat) (x : BenS) (A1 A2 : Option Addr) (c1 c2 : Nat) (Ap : Option Addr) (cp : Nat) (d' : Dev) (A1' A2' : Option Addr) (c1' c2' : Nat) :
    splice (benchV g gb x A1 A2 c1 c2 Ap cp).toArray 2 (refV d' A1' A2' c1' c2') = (benchV g gb { x with d := d' } A1' A2' c1' c2' Ap cp).toArray := by
  simp only [benchV, refV, splice, List.cons_append, List.nil_append, List.setIfInBounds_toArray, List.set_cons_succ, List.set_cons_zero, Nat.reduceAdd]
theorem bench_put_opn (g gb : Nat) (x : BenS) (A1 A2 : Option Addr) (c1 c2 : Nat) (Ap : Option Addr) (cp : Nat) (o : Bool) :
    (benchV g gb x A1 A2 c1 c2 Ap cp).toArray.setIfInBounds 12 (.bool o) = (benchV g gb { x with opn := o } A1 A2 c1 c2 Ap cp).toArray := rfl
theorem bench_put_put (g gb : Nat) (x : BenS) (A1 A2 : Option Addr) (c1 c2 : Nat) (Ap : Option Addr) (cp : Nat) (l : List Nat) (Aq : Option Addr) (cq : Nat) :
    (benchV g gb x A1 A2 c1 c2 Ap cp).toArray.setIfInBounds 13 (.slice Aq l.length cq) = (benchV g gb { x with put := l } A1 A2 c1 c2 Aq cq).toArray := rfl
theorem bench_cells (g gb : Nat) (x : BenS) (A1 A2 : Option Addr) (c1 c2 : Nat) (Ap : Option Addr) (cp : Nat) :
    (benchV g gb x A1 A2 c1 c2 Ap cp).toArray[0]? = some (.pointer (some ⟨g, 0, none⟩)) ∧ (benchV g gb x A1 A2 c1 c2 Ap cp).toArray[1]? = some (.pointer (some ⟨gb, 0, none⟩)) ∧ (benchV g gb x A1 A2 c1 c2 Ap cp).toArray[2]? = some (.int .i64 x.d.ns) ∧
    (benchV g gb x A1 A2 c1 c2 Ap cp).toArray[3]? = some (.int .i64 x.d.nw) ∧ (benchV g gb x A1 A2 c1 c2 Ap cp).toArray[4]? = some (.int .i64 x.d.lim) ∧ (benchV g gb x A1 A2 c1 c2 Ap cp).toArray[5]? = some (.slice A1 x.d.bits.length c1) ∧
    (benchV g gb x A1 A2 c1 c2 Ap cp).toArray[6]? = some (.slice A2 x.d.worn.length c2) ∧ (benchV g gb x A1 A2 c1 c2 Ap cp).toArray[7]? = some (.bool (!x.d.on)) ∧ (benchV g gb x A1 A2 c1 c2 Ap cp).toArray[12]? = some (.bool x.opn) ∧
    (benchV g gb x A1 A2 c1 c2 Ap cp).toArray[13]? = some (.slice Ap x.put.length cp) := ⟨rfl, rfl, rfl, rfl, rfl, rfl, rfl, rfl, rfl, rfl⟩
/-- What the bench's value refers to. -/
structure BenAt (base : Nat) (F : List Nat) (w : World) (A1 A2 : Option Addr) (c1 c2 : Nat) (Ap : Option Addr) (x : BenS) : Prop where
  rows : ROwn base F w A1 A2 c1 c2 x.d
  put : Reads w 1 Ap x.put.length (wordsV x.put)
  off : 0 < x.put.length → Off F Ap
theorem BenAt.keep {base : Nat} {F : List Nat} {w w' : World} {A1 A2 : Option Addr} {c1 c2 : Nat} {Ap : Option Addr} {x : BenS} (h : BenAt base F w A1 A2 c1 c2 Ap x) (k : Keep F w w') : BenAt base F w' A1 A2 c1 c2 Ap x := by
  refine ⟨h.rows.keep k, ?_, h.off⟩
  by_cases h0 : 0 < x.put.length
  · exact h.put.keep k (h.off h0)
  · exact ⟨h.put.1, fun h1 => absurd h1 h0⟩
theorem BenAt.keep0 {base : Nat} {F : List Nat} {w w' : World} {A1 A2 : Option Addr} {c1 c2 : Nat} {Ap : Option Addr} {x : BenS} (h : BenAt base F w A1 A2 c1 c2 Ap x) (k : Keep [] w w') : BenAt base F w' A1 A2 c1 c2 Ap x := h.keep (k.mono (by simp))
/-- What a call of the document's bank hands back. -/
def RetBen (base : Nat) (F : List Nat) (w : World) (g gb : Nat) (x : BenS) (e : Int) (en : Ending) (w' : World) : Prop :=
  ∃ A1 A2 c1 c2 Ap cp, en = .returned (.tuple #[.agg (benchV g gb x A1 A2 c1 c2 Ap cp).toArray, .int .i64 e]) ∧ BenAt base F w' A1 A2 c1 c2 Ap x ∧ Keep [] w w'
/-- The boxed argument and the result's cells. -/
def boxB (w : World) (L : List Value) : World := (w.alloc (.cells L.toArray 76)).alloc (.cells zeroBen 76)
theorem boxB_facts (w : World) (L : List Value) : Blk (boxB w L) w.heap.size 76 L.toArray ∧ Blk (boxB w L) (w.heap.size + 1) 76 zeroBen ∧ Keep [] w (boxB w L) ∧ (boxB w L).heap.size = w.heap.size + 2 := by
  unfold boxB
  refine ⟨(Blk.new _ _ _).alloc _, ?_, ((Keep.refl _ w).alloc _).alloc _, by simp⟩
  have := Blk.new (w.alloc (.cells L.toArray 76)) 76 zeroBen
  rw [World.size_alloc] at this
  exact this
end Go.Proofs.Yteanpgkonhdbpaa
