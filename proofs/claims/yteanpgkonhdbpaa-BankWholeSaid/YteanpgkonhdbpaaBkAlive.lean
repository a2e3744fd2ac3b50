/- The law's own trial of a bank; walked. No condition. -/
import Derived.Test.YteanpgkonhdbpaaBkP
import Derived.Test.YteanpgkonhdbpaaFlashNew
namespace Go.Proofs.Yteanpgkonhdbpaa
open Go.RowKit

/-- A field of a struct value, the field of one cell. -/
theorem run_field_one {P : Program} {t : TypeId} {fs : Array Field} (ht : P.underlying t = some (.struct fs)) {k : Nat} {f : Field} (hf : fs[k]? = some f) {d : TypeDesc} (he : P.underlying f.type = some d) (hd : (match d with | .struct _ | .array _ _ => false | _ => true) = true)
    (hs : (P.info? f.type).map (·.size) = some 1) {cs : Array Value} {v : Value} (hv : cs[f.offset]? = some v) (w : World) : (Instr.field t (.agg cs) k).run P w = .ok v w := by
  cases hq : P.info? f.type with
  | none => simp [hq] at hs
  | some i =>
    have h1 : i.size = 1 := by simpa [hq] using hs
    have hagg : (isAgg f.type).run P w = .ok false w := by
      unfold isAgg
      rw [Sem.run_bind, run_underlying he w]
      cases d <;> simp_all
    simp [Instr.field, asAgg, run_underlying ht, hf, Sem.run_bind, sizeOf, typeInfo, hq, h1, part, hagg, hv]
/-- A field of a struct value that is a struct itself. -/
theorem run_field_part {P : Program} {t : TypeId} {fs : Array Field} (ht : P.underlying t = some (.struct fs)) {k : Nat} {f : Field} (hf : fs[k]? = some f) {gs : Array Field} (he : P.underlying f.type = some (.struct gs))
    {n : Nat} (hs : (P.info? f.type).map (·.size) = some n) {cs : Array Value} (w : World) : (Instr.field t (.agg cs) k).run P w = .ok (.agg (cs.extract f.offset (f.offset + n))) w := by
  cases hq : P.info? f.type with
  | none => simp [hq] at hs
  | some i =>
    have h1 : i.size = n := by simpa [hq] using hs
    have hagg : (isAgg f.type).run P w = .ok true w := by
      unfold isAgg
      rw [Sem.run_bind, run_underlying he w]
      rfl
    simp [Instr.field, asAgg, run_underlying ht, hf, Sem.run_bind, sizeOf, typeInfo, hq, h1, part, hagg]
set_option maxRecDepth 100000 in
theorem field_head (h : HdS) (W : World) : (Instr.field 70 (.agg (hdCells h).toArray) 0).run Try.prog W = .ok (.agg #[.int .u32 (h.seq : Int), .int .u32 (h.long : Int), .int .u32 (h.check : Int)]) W :=
  by
    have h := run_field_part (k := 0) (cs := (hdCells h).toArray) Try.underlying70 rfl Try.underlying68 (n := 3) (by kernel_rfl) W
    exact h
set_option maxRecDepth 100000 in
theorem field_seq (a b c : Value) (W : World) : (Instr.field 68 (.agg #[a, b, c]) 0).run Try.prog W = .ok a W :=
  run_field_one Try.underlying68 rfl Try.underlying33 rfl (by kernel_rfl) rfl W

set_option maxRecDepth 100000 in
set_option maxHeartbeats 4000000 in
theorem alive_any08 (w : World) : Calls Try.prog 27 #[] w fun e w' => e = .returned (.bool true) ∧ Keep [] w w' := by
  have HN : Hid (∀ W, Calls Try.prog 12 #[.int .i64 4, .int .i64 16, .int .i64 9] W (RetNew W d0B)) := fun W => fnew_yes 4 16 9 W (by decide) (by decide) (by decide) (by decide) (by decide)
  go_enter Try.func27, Try.ntmps27
  go_wp2_with fail
  refine (HN.out _).mono ?_
  rintro e w1 ⟨g, b1, b2, rfl, hg, hb1, hb2, hd1, k1⟩
  have HBN := Lib.hid (bnew_yes g b1 b2 1 3 d0B w1 hd1 d0B_ok (by decide) (by decide) (by decide))
  have HD1 := Lib.hid hd1
  have HK1 := Lib.hid k1
  clear hd1 k1
  go_wp2_with fail
  refine HBN.out.mono ?_
  rintro e w2 ⟨gb, rfl, hgb, hb2', k2⟩
  have hk0 : BkOk d0B b0B := ⟨by decide, by decide, by decide⟩
  have HBG := Lib.hid (bbegin_any gb g b1 b2 d0B b0B w2 hb2' (HD1.out.keep0 k2) d0B_ok hk0)
  have HK2 := Lib.hid (HK1.out.then k2)
  have hsz2 := HK2.out.size
  have hsz1 := HK1.out.size
  clear k2 hb2'
  go_wp2_with fail
  refine HBG.out.mono ?_
  rintro e w3 ⟨rfl, hl3⟩
  have HL3 := Lib.hid hl3
  rw [show (beginB d0B b0B).2.2 = 0 from r1B_e]
  clear hl3
  go_wp2_with fail
  have HRD : Hid (Reads (w3.alloc (.cells #[.int .u32 1, .int .u32 2] 33)) 1 (some ⟨w3.heap.size, 0, none⟩) 2 (wordsV [1, 2])) := by
    have hb := Blk.new w3 33 #[.int .u32 1, .int .u32 2]
    refine ⟨rfl, fun _ => ⟨w3.heap.size, 0, rfl, by simp, fun j u hj => ?_⟩⟩
    match j, hj with
    | 0, hj => cases hj; exact hb.cell 0
    | 1, hj => cases hj; exact hb.cell 1
    | j + 2, hj => cases hj
  have ka : Keep [] w3 (w3.alloc (.cells #[.int .u32 1, .int .u32 2] 33)) := (Keep.refl [] w3).alloc _
  have hlt : gb < w3.heap.size ∧ g < w3.heap.size ∧ b1 < w3.heap.size ∧ b2 < w3.heap.size := ⟨Blk.lt HL3.out.bank, HL3.out.dev.dev.lt, HL3.out.dev.bits.lt, HL3.out.dev.worn.lt⟩
  have hbe : (beginB d0B b0B).2.1 = ⟨1, 3, true, 0, 4294967295, 0⟩ := r1B_b
  have hk1 : BkOk r1B.1 r1B.2.1 := ⟨by show 3 ≤ (beginB d0B b0B).2.1.many; rw [hbe]; decide, by show (beginB d0B b0B).2.1.base + (beginB d0B b0B).2.1.many ≤ _; rw [hbe, r1B_ok.2.ns]; decide, by rw [r1B_ok.2.nw]; decide⟩
  have HPT : Hid (Calls Try.prog 70 #[.pointer (some ⟨gb, 0, none⟩), .slice (some ⟨w3.heap.size, 0, none⟩) 2 2] (w3.alloc (.cells #[.int .u32 1, .int .u32 2] 33)) fun e w' => e = .returned (.int .i64 0) ∧ LeftB (w3.alloc (.cells #[.int .u32 1, .int .u32 2] 33)) w' gb g b1 b2 r2B.1 r2B.2.1) := by
    have h := bput_any gb g b1 b2 r1B.1 r1B.2.1 (w3.alloc (.cells #[.int .u32 1, .int .u32 2] 33)) (HL3.out.bank.keep0 ka) (HL3.out.dev.keep0 ka) r1B_ok.1 hk1 (by rw [r1B_b]; decide) (by rw [r1B_b]; decide) (by rw [r1B_b]; decide)
      (some ⟨w3.heap.size, 0, none⟩) 2 2 [1, 2] rfl (by decide) HRD.out (fun _ o ho => by cases ho; dsimp only; omega) (by decide)
    rw [show (putB r1B.1 r1B.2.1 [1, 2]).2.2 = 0 from r2B_e] at h
    exact h
  have HK3 := Lib.hid ((HL3.out.keep.mono (G := [gb, g, b1, b2]) (by simp)).trans ka (fun y hy _ => by simp at hy))
  clear HRD ka HL3
  go_wp2_with (refine HPT.out.mono ?_; rintro e w4 ⟨rfl, hl4⟩)
  have hpn : r2B.2.1.pn = 2 := congrArg (fun x => x.2.2) r2B_b
  have hba2 : r2B.2.1.base = 1 := congrArg (fun x => x.1) r2B_b
  have hma2 : r2B.2.1.many = 3 := congrArg (fun x => x.2.1) r2B_b
  have hk2 : BkOk r2B.1 r2B.2.1 := ⟨by rw [hma2]; decide, by rw [hba2, hma2, r2B_ok.2.ns]; decide, by rw [r2B_ok.2.nw]; decide⟩
  have HCM : Hid (Calls Try.prog 71 #[.pointer (some ⟨gb, 0, none⟩), .int .u32 7] w4 fun e w' => e = .returned (.int .i64 0) ∧ LeftB w4 w' gb g b1 b2 r3B.1 r3B.2.1) := by
    have h := bcommit_any gb g b1 b2 r2B.1 r2B.2.1 7 w4 hl4.bank hl4.dev r2B_ok.1 hk2 (by omega) (of_decide_eq_true r2B_s) (by decide)
    rw [show (commitB r2B.1 r2B.2.1 7).2.2 = 0 from r3B_e] at h
    exact h
  have HK4 := Lib.hid (HK3.out.trans hl4.keep (fun y hy _ => hy))
  clear hl4 HPT HK3 hpn hk2 hba2 hma2
  go_wp2_with (refine HCM.out.mono ?_; rintro e w5 ⟨rfl, hl5⟩)
  have hba3 : r3B.2.1.base = 1 := congrArg (fun x => x.1) r3B_b
  have hma3 : r3B.2.1.many = 3 := congrArg (fun x => x.2) r3B_b
  have hk3 : BkOk r3B.1 r3B.2.1 := ⟨by rw [hma3]; decide, by rw [hba3, hma3, r3B_ok.2.ns]; decide, by rw [r3B_ok.2.nw]; decide⟩
  have HIM := Lib.hid (bimage_any gb g b1 b2 r3B.1 r3B.2.1 w5 hl5.bank hl5.dev r3B_ok.1 hk3)
  rw [r3B_im] at HIM
  have HST : Hid (∀ W, Keep [] w5 W → Calls Try.prog 32 #[.pointer (some ⟨gb, 0, none⟩)] W fun e w' => e = .returned (.agg (hdCells (stateB r3B.1 r3B.2.1)).toArray) ∧ Keep [] W w') := fun W k =>
    bstate_any gb g b1 b2 r3B.1 r3B.2.1 W (hl5.bank.keep0 k) (hl5.dev.keep0 k) r3B_ok.1 hk3
  obtain ⟨st, hst⟩ : ∃ st, stateB r3B.1 r3B.2.1 = st := ⟨_, rfl⟩
  have HSQ : Hid (st.seq = 7) := by show _ = _; rw [← hst]; exact r3B_seq
  rw [hst] at HST
  have hseq := HSQ.out
  obtain ⟨sq, lo, ck, va, cf, tr⟩ := st
  dsimp only at hseq
  subst hseq
  have HK5 : Hid (Keep [] w w5) := by
    have h := HK4.out.trans hl5.keep (fun y hy _ => hy)
    exact HK2.out.trans h (fun y hy hl => by simp only [List.mem_cons, List.not_mem_nil, or_false] at hy; omega)
  clear hl5 HCM HK4 hst hba3 hma3 hk3 HSQ
  go_wp2_with fail
  refine HIM.out.mono ?_
  rintro e w6 ⟨A, c, rfl, hown, k6⟩
  obtain ⟨ba, oa, rfl, hlta, hcs⟩ := (Reads.of_own hown).addr (by decide)
  have c1 : w6.cell? ⟨ba, oa + 1, none⟩ = some (.int .u32 2) := hcs 1 _ rfl
  clear hcs hown
  have hfd := fun W => field_head ⟨7, lo, ck, va, cf, tr⟩ W
  have hfq := fun W => field_seq (.int .u32 7) (.int .u32 (lo : Int)) (.int .u32 (ck : Int)) W
  go_wp2_with (refine (HST.out _ k6).mono ?_; rintro e w7 ⟨rfl, k7⟩)
  go_ret
  exact ⟨rfl, (HK5.out.then k6).then k7⟩
end Go.Proofs.Yteanpgkonhdbpaa
