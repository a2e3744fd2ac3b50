/- The line of a step: plain. Laws of texts that are laid together. No condition. The line of a step: the program's answer; walked. Condition: at most a million sections, and words. -/
import Derived.Test.YtoepkhkaifgddaaStRightW
import Derived.Test.YtoepkhkaifgddaaStFormK
namespace Go.Proofs.Ytoepkhkaifgddaa
open Go.RowKit

def secT (x : Sct) : List UInt8 := 32 :: (decL (clampN x.res) ++ 58 :: (decL (clampN x.frm) ++ 45 :: decL (clampN x.to)))
def wordT (k : Nat) : List UInt8 := 32 :: hexL k
/-- A part of a step's line. -/
def partT (s : Stp) (c : Int) : List UInt8 :=
  if c = 97 then 32 :: decL (clampN s.a)
  else if c = 110 then 32 :: decL (clampN s.n)
  else if c = 104 then wordT s.n.toNat
  else if c = 115 then s.secs.flatMap secT
  else if c = 119 then s.words.flatMap wordT
  else []
/-- The first parts of a step's line. -/
def partsT (s : Stp) (p : ByteArray) (k : Nat) : List UInt8 := (List.range k).flatMap (fun i => partT s (byteAt p i))
def lineT (s : Stp) : List UInt8 := if rightP s then bytesOf (shp s.kind).1 ++ partsT s (shp s.kind).2 (shp s.kind).2.size else []
theorem partsT_succ (s : Stp) (p : ByteArray) (k : Nat) : partsT s p (k + 1) = partsT s p k ++ partT s (byteAt p k) := by
  unfold partsT
  rw [List.range_succ, List.flatMap_append]
  simp
theorem strOf_of {S : ByteArray} {l : List UInt8} (h : bytesOf S = l) : Value.string S = strOf l := by
  subst h
  unfold strOf bytesOf
  rfl
theorem text_fix (n : Int) (w : World) : Calls Try.prog 38 #[.int .i64 n] w fun e w' => e = .returned (strOf (decL (clampN n))) ∧ Keep [] w w' :=
  (text_any n w).mono (by rintro e w' ⟨S, rfl, hS, k⟩; exact ⟨by rw [strOf_of hS], k⟩)
theorem word_fix (x : Nat) (w : World) (hx : x < 4294967296) : Calls Try.prog 59 #[.int .u32 (x : Int)] w fun e w' => e = .returned (strOf (hexL x)) ∧ Keep [] w w' :=
  (word_any x w hx).mono (by rintro e w' ⟨S, rfl, hS, k⟩; exact ⟨by rw [strOf_of hS], k⟩)
theorem rtext_fix (n : Int) (w : World) : Calls Try.prog 42 #[.int .i64 n] w fun e w' => e = .returned (strOf (decL (clampN n))) ∧ Keep [] w w' :=
  (rtext_any n w).mono (by rintro e w' ⟨S, rfl, hS, k⟩; exact ⟨by rw [strOf_of hS], k⟩)
theorem rword_fix (x : Nat) (w : World) (hx : x < 4294967296) : Calls Try.prog 60 #[.int .u32 (x : Int)] w fun e w' => e = .returned (strOf (hexL x)) ∧ Keep [] w w' :=
  (rword_any x w hx).mono (by rintro e w' ⟨S, rfl, hS, k⟩; exact ⟨by rw [strOf_of hS], k⟩)
/-- Two texts laid together, as an operation. -/
theorem exec_add {P : Program} {ev : Operand → Value} {x y : Operand} {l m : List UInt8} {dst : Option Tmp} {t t' ty : TypeId} {pos : String} {after : Array Edge} {gd : Option (Nat × Bool)} (hx : ev x = strOf l) (hy : ev y = strOf m) (hlm : l.length + m.length ≤ 1000000000000) (w : World) :
    (execOp ev ⟨dst, .binOp .add t x y t', ty, pos, after, gd⟩).run P w = .ok (.value (strOf (l ++ m))) w := by
  unfold execOp
  have e : (eqGuard BinOp.add t x y (strOf l) (strOf m) : Sem Unit) = pure () := rfl
  simp only [hx, hy, e, Sem.run_bind, run_add_str (P := P) t l m hlm w, Result.andThen_ok, Sem.run_pure]
theorem hexL_len (x : Nat) : (hexL x).length = 8 := hexN_len 8 x
theorem secT_len (x : Sct) : (secT x).length ≤ 33 := by
  have h1 := decL_len10 x.res
  have h2 := decL_len10 x.frm
  have h3 := decL_len10 x.to
  unfold secT
  simp
  omega
theorem flatT_len {α : Type} (f : α → List UInt8) (n : Nat) (h : ∀ x, (f x).length ≤ n) : ∀ l : List α, (l.flatMap f).length ≤ l.length * n
  | [] => by simp
  | x :: l => by
    rw [List.flatMap_cons, List.length_append, List.length_cons, Nat.add_mul]
    have := flatT_len f n h l
    have := h x
    omega
theorem partT_len (s : Stp) (c : Int) : (partT s c).length ≤ 11 + s.secs.length * 33 + s.words.length * 9 := by
  have h1 := decL_len10 s.a
  have h2 := decL_len10 s.n
  have h3 := flatT_len secT 33 secT_len s.secs
  have h4 := flatT_len wordT 9 (fun x => by unfold wordT; rw [List.length_cons, hexL_len]; omega) s.words
  have h5 := hexL_len s.n.toNat
  unfold partT
  split
  · simp; omega
  · split
    · simp; omega
    · split
      · unfold wordT; simp; omega
      · split
        · omega
        · split
          · omega
          · simp
theorem partsT_len (s : Stp) (p : ByteArray) : ∀ k, (partsT s p k).length ≤ k * (11 + s.secs.length * 33 + s.words.length * 9)
  | 0 => by simp [partsT]
  | k + 1 => by
    rw [partsT_succ, List.length_append, Nat.add_mul]
    have := partsT_len s p k
    have := partT_len s (byteAt p k)
    omega
end Go.Proofs.Ytoepkhkaifgddaa

namespace Go.Proofs.Ytoepkhkaifgddaa
open Go.RowKit

theorem shp_nh' (k : Int) : hasB (shp k).2 104 = true → hasB (shp k).2 110 = false := by
  by_cases hk : 1 ≤ k ∧ k ≤ 15
  · have : k = 1 ∨ k = 2 ∨ k = 3 ∨ k = 4 ∨ k = 5 ∨ k = 6 ∨ k = 7 ∨ k = 8 ∨ k = 9 ∨ k = 10 ∨ k = 11 ∨ k = 12 ∨ k = 13 ∨ k = 14 ∨ k = 15 := by omega
    clear hk
    rcases this with rfl | rfl | rfl | rfl | rfl | rfl | rfl | rfl | rfl | rfl | rfl | rfl | rfl | rfl | rfl
    all_goals decide
  · have hs : shp k = ({ data := #[] }, { data := #[] }) := by unfold shp; (repeat rw [if_neg (by omega)])
    rw [hs]
    decide
theorem shp_wlen (k : Int) : (shp k).1.size ≤ 10 := by
  by_cases hk : 1 ≤ k ∧ k ≤ 15
  · have : k = 1 ∨ k = 2 ∨ k = 3 ∨ k = 4 ∨ k = 5 ∨ k = 6 ∨ k = 7 ∨ k = 8 ∨ k = 9 ∨ k = 10 ∨ k = 11 ∨ k = 12 ∨ k = 13 ∨ k = 14 ∨ k = 15 := by omega
    clear hk
    rcases this with rfl | rfl | rfl | rfl | rfl | rfl | rfl | rfl | rfl | rfl | rfl | rfl | rfl | rfl | rfl
    all_goals decide
  · have hs : shp k = ({ data := #[] }, { data := #[] }) := by unfold shp; (repeat rw [if_neg (by omega)])
    rw [hs]
    decide
theorem right_h {s : Stp} (hr : rightP s = true) {i : Nat} (hi : i < (shp s.kind).2.size) (hc : byteAt (shp s.kind).2 i = 104) : 0 ≤ s.n ∧ s.n ≤ 4294967295 := by
  have h1 : hasB (shp s.kind).2 104 = true := by
    refine (hasB_iff _ 104 (by decide)).2 ⟨i, hi, ?_⟩
    unfold byteAt at hc
    rw [dif_pos hi] at hc
    omega
  have h2 := shp_nh' _ h1
  unfold rightP at hr
  simp only [Bool.and_eq_true] at hr
  have h3 := hr.1.2.1
  unfold nOk at h3
  rw [h2, h1] at h3
  simpa using h3

set_option maxRecDepth 100000 in
set_option maxHeartbeats 4000000 in
theorem line_any (s : Stp) (v : StpV) (w : World) (h : StepAt w v s) (hls : s.secs.length ≤ 1000000) (hlw : s.words.length ≤ 1000000) :
    Calls Try.prog 26 #[.agg #[.int .i64 s.kind, .int .i64 s.a, .int .i64 s.n, .slice v.sa s.secs.length v.sc, .slice v.wa s.words.length v.wc]] w fun e w' => e = .returned (strOf (lineT s)) ∧ Keep [] w w' := by
  have HS := fun W => Lib.hid (shapeOf_any s.kind W)
  have hb0 := Blk.new w 45 #[.int .i64 s.kind, .int .i64 s.a, .int .i64 s.n, .slice v.sa s.secs.length v.sc, .slice v.wa s.words.length v.wc]
  have hk0 := (Keep.refl [] w).alloc (.cells #[.int .i64 s.kind, .int .i64 s.a, .int .i64 s.n, .slice v.sa s.secs.length v.sc, .slice v.wa s.words.length v.wc] 45)
  have HLT : Hid (lineT s = if rightP s then bytesOf (shp s.kind).1 ++ partsT s (shp s.kind).2 (shp s.kind).2.size else []) := rfl
  have hRH := fun (hr : rightP s = true) i hi hc => right_h hr (i := i) hi hc
  have hpc := shp_parts s.kind
  have hsh3 := shp_size s.kind
  have hwl : (bytesOf (shp s.kind).1).length ≤ 10 := by rw [bytesOf_len]; exact shp_wlen s.kind
  generalize shp s.kind = sp at *
  obtain ⟨wd, p⟩ := sp
  dsimp only at hRH hpc hsh3 hwl HLT
  go_enter Try.func26, Try.ntmps26
  go_wp2_with fail
  refine (HS _).out.mono ?_
  rintro e w1 ⟨rfl, k1⟩
  have hb1 := hb0.keep0 k1
  have hk1 := hk0.then k1
  clear hb0 hk0 k1 HS
  obtain ⟨W1, hW1⟩ : ∃ W1, w1.alloc (.cells #[.string wd, .string p] 95) = W1 := ⟨_, rfl⟩
  have hd1 : Blk W1 w1.heap.size 95 #[.string wd, .string p] := by rw [← hW1]; exact Blk.new _ _ _
  have hb2 : Blk W1 w.heap.size 45 #[.int .i64 s.kind, .int .i64 s.a, .int .i64 s.n, .slice v.sa s.secs.length v.sc, .slice v.wa s.words.length v.wc] := by rw [← hW1]; exact hb1.alloc _
  have hk2 : Keep [] w W1 := by rw [← hW1]; exact hk1.alloc _
  have hG : ∀ w', Keep [] W1 w' → (w'.cell? ⟨w.heap.size, 0, none⟩ = some (.int .i64 s.kind) ∧ w'.cell? ⟨w.heap.size, 1, none⟩ = some (.int .i64 s.a) ∧ w'.cell? ⟨w.heap.size, 2, none⟩ = some (.int .i64 s.n) ∧ w'.cell? ⟨w.heap.size, 3, none⟩ = some (.slice v.sa s.secs.length v.sc) ∧ w'.cell? ⟨w.heap.size, 4, none⟩ = some (.slice v.wa s.words.length v.wc)) ∧ w'.cell? ⟨w1.heap.size, 0, none⟩ = some (.string wd) ∧ w'.cell? ⟨w1.heap.size, 1, none⟩ = some (.string p) := fun w' k =>
    ⟨⟨(hb2.keep0 k).cell 0, (hb2.keep0 k).cell 1, (hb2.keep0 k).cell 2, (hb2.keep0 k).cell 3, (hb2.keep0 k).cell 4⟩, (hd1.keep0 k).cell 0, (hd1.keep0 k).cell 1⟩
  have HR := Lib.hid (right_any s v W1 (h.keep0 hk2))
  have HAt := Lib.hid (h.keep0 hk2)
  clear hb1 hk1 hb2 hd1 h
  obtain ⟨⟨f0, f1, f2, f3, f4⟩, f5, f6⟩ := hG _ (Keep.refl _ _)
  go_wp2_with fail
  refine HR.out.mono ?_
  rintro e w2 ⟨rfl, k2⟩
  cases hr : rightP s
  · rw [hr] at HLT
    go_wp2
    go_ret
    exact ⟨by rw [HLT.out]; rfl, hk2.then k2⟩
  · rw [hr] at HLT
    have hRN := hRH hr
    obtain ⟨⟨g0, g1, g2, g3, g4⟩, g5, g6⟩ := hG _ k2
    have K2 := Lib.hid k2
    clear f0 f1 f2 f3 f4 f5 f6 k2 hRH HR
    have hPL := fun k => partsT_len s p k
    have hCL := fun c => partT_len s c
    go_wp2
    go_loopw [25, 5] (fun v25 v5 wr => ∃ i : Nat, i ≤ p.size ∧ v25 = .int .i64 (i : Int) ∧ v5 = strOf (bytesOf wd ++ partsT s p i) ∧ Keep [] W1 wr) (fun v25 _ _ => p.size - (intOf v25).toNat)
    case atStart => exact ⟨0, Nat.zero_le _, rfl, strOf_of (by simp [partsT]), K2.out⟩
    case round =>
      obtain ⟨i, hi, rfl, rfl, hkr⟩ := hrel
      obtain ⟨⟨a0, a1, a2, a3, a4⟩, a5, a6⟩ := hG _ hkr
      have HKr := Lib.hid hkr
      by_cases hlt : i < p.size
      · have hnx := Lib.hid (partsT_succ s p i)
        have hby : byteAt p i = ((p[i]'hlt).toNat : Int) := dif_pos hlt
        have hc5 := hpc i hlt
        have hnr := fun h => hRN i hlt h
        have hlen : (bytesOf wd ++ partsT s p i).length ≤ 200000000 := by
          have := hPL i
          have : i * (11 + s.secs.length * 33 + s.words.length * 9) ≤ 3 * (11 + s.secs.length * 33 + s.words.length * 9) := Nat.mul_le_mul_right _ (by omega)
          rw [List.length_append]
          omega
        have hnx2 : Hid (bytesOf wd ++ partsT s p (i + 1) = (bytesOf wd ++ partsT s p i) ++ partT s (byteAt p i)) := by show _ = _; rw [hnx.out, List.append_assoc]
        generalize bytesOf wd ++ partsT s p i = acc at *
        rw [hby] at hc5 hnr hnx2
        have hp0 : (0 : Int) ≤ (i : Int) := by omega
        have hp1 : (i : Int) < (p.size : Int) := by omega
        clear hnx hby hpc hRN hPL hkr
        generalize hcc : ((p[i]'hlt).toNat : Int) = cc at *
        have hlen2 := hCL cc
        rcases hc5 with rfl | rfl | rfl | rfl | rfl
        · have hpt : Hid (partT s 97 = 32 :: (decL (clampN s.a))) := rfl
          have hl := hlen2
          rw [hpt.out] at hl
          have had1 : ∀ W, (binOp .add 9 (.string { data := #[32] }) (strOf (decL (clampN s.a)))).run Try.prog W = .ok (strOf (32 :: (decL (clampN s.a)))) W := fun W => run_add_str (P := Try.prog) 9 [32] (decL (clampN s.a)) (by simp at hl ⊢; omega) W
          have had2 : ∀ W, (binOp .add 9 (strOf acc) (strOf (32 :: (decL (clampN s.a))))).run Try.prog W = .ok (strOf (acc ++ 32 :: (decL (clampN s.a)))) W := fun W => run_add_str (P := Try.prog) 9 acc (32 :: (decL (clampN s.a))) (by simp at hl ⊢; omega) W
          clear hlen hlen2 hl hnr hCL
          go_wp2_with fail
          refine (text_fix s.a _).mono ?_
          rintro e w3 ⟨rfl, k3⟩
          go_wp2
          go_roundw
          case rel => exact ⟨i + 1, by omega, by go_num, by rw [hnx2.out, hpt.out], HKr.out.then k3⟩
          case measure => simp [intOf]; omega
        · have hpt : Hid (partT s 110 = 32 :: (decL (clampN s.n))) := rfl
          have hl := hlen2
          rw [hpt.out] at hl
          have had1 : ∀ W, (binOp .add 9 (.string { data := #[32] }) (strOf (decL (clampN s.n)))).run Try.prog W = .ok (strOf (32 :: (decL (clampN s.n)))) W := fun W => run_add_str (P := Try.prog) 9 [32] (decL (clampN s.n)) (by simp at hl ⊢; omega) W
          have had2 : ∀ W, (binOp .add 9 (strOf acc) (strOf (32 :: (decL (clampN s.n))))).run Try.prog W = .ok (strOf (acc ++ 32 :: (decL (clampN s.n)))) W := fun W => run_add_str (P := Try.prog) 9 acc (32 :: (decL (clampN s.n))) (by simp at hl ⊢; omega) W
          clear hlen hlen2 hl hnr hCL
          go_wp2_with fail
          refine (text_fix s.n _).mono ?_
          rintro e w3 ⟨rfl, k3⟩
          go_wp2
          go_roundw
          case rel => exact ⟨i + 1, by omega, by go_num, by rw [hnx2.out, hpt.out], HKr.out.then k3⟩
          case measure => simp [intOf]; omega
        · obtain ⟨hn0, hn1⟩ := hnr rfl
          obtain ⟨m, hm⟩ : ∃ m : Nat, s.n = (m : Int) := ⟨s.n.toNat, by omega⟩
          have hpt : Hid (partT s 104 = 32 :: hexL m) := by show _ = _; unfold partT wordT; rw [hm]; rfl
          have hl := hlen2
          rw [hpt.out] at hl
          have had1 : ∀ W, (binOp .add 9 (.string { data := #[32] }) (strOf (hexL m))).run Try.prog W = .ok (strOf (32 :: hexL m)) W := fun W => run_add_str (P := Try.prog) 9 [32] (hexL m) (by simp at hl ⊢; omega) W
          have had2 : ∀ W, (binOp .add 9 (strOf acc) (strOf (32 :: hexL m))).run Try.prog W = .ok (strOf (acc ++ 32 :: hexL m)) W := fun W => run_add_str (P := Try.prog) 9 acc (32 :: hexL m) (by simp at hl ⊢; omega) W
          have hm2 : m < 4294967296 := by omega
          rw [hm] at a2
          clear hlen hlen2 hl hnr hCL hn0 hn1 hm
          go_wp2_with fail
          refine (word_fix m _ hm2).mono ?_
          rintro e w3 ⟨rfl, k3⟩
          go_wp2
          go_roundw
          case rel => exact ⟨i + 1, by omega, by go_num, by rw [hnx2.out, hpt.out], HKr.out.then k3⟩
          case measure => simp [intOf]; omega
        · have hpt : Hid (partT s 115 = s.secs.flatMap secT) := rfl
          rw [hpt.out] at hlen2 hnx2
          clear hpt hnr hCL
          have HAr := HAt.out.keep0 HKr.out
          have hsec : 0 < s.secs.length → ∃ b o, v.sa = some ⟨b, o, none⟩ ∧ ∀ w', Keep [] wr w' → ∀ k, (hk : k < s.secs.length) → w'.cell? ⟨b, o + k * 3, none⟩ = some (.int .i64 s.secs[k].res) ∧ w'.cell? ⟨b, o + k * 3 + 1, none⟩ = some (.int .i64 s.secs[k].frm) ∧ w'.cell? ⟨b, o + k * 3 + 2, none⟩ = some (.int .i64 s.secs[k].to) := fun h0 => by
            obtain ⟨b, o, e, hb, hc⟩ := HAr.sec h0
            exact ⟨b, o, e, fun w' kk j hj => ⟨(kk.cell (p := ⟨b, o + j * 3, none⟩) hb (by simp)).trans (hc j hj 0 _ rfl), (kk.cell (p := ⟨b, o + j * 3 + 1, none⟩) hb (by simp)).trans (hc j hj 1 _ rfl), (kk.cell (p := ⟨b, o + j * 3 + 2, none⟩) hb (by simp)).trans (hc j hj 2 _ rfl)⟩⟩
          clear HAr
          generalize wr = wo at *
          go_wp2
          go_loopw [62, 5] (fun v62 v5 wr => ∃ j : Nat, j ≤ s.secs.length ∧ v62 = .int .i64 (j : Int) ∧ v5 = strOf (acc ++ (s.secs.take j).flatMap secT) ∧ Keep [] wo wr) (fun v62 _ _ => s.secs.length - (intOf v62).toNat)
          case atStart => exact ⟨0, Nat.zero_le _, rfl, by simp, Keep.refl _ _⟩
          case round =>
            obtain ⟨j, hj, rfl, rfl, hkj⟩ := hrel
            by_cases hjl : j < s.secs.length
            · obtain ⟨sb, so, hsa, hcs⟩ := hsec (by omega)
              obtain ⟨q1, q2, q3⟩ := hcs wr hkj j hjl
              have hpj0 : (0 : Int) ≤ (j : Int) := by omega
              have hpj1 : (j : Int) < (s.secs.length : Int) := by omega
              have hnj : Hid (acc ++ (s.secs.take (j + 1)).flatMap secT = (acc ++ (s.secs.take j).flatMap secT) ++ secT s.secs[j]) := by show _ = _; rw [List.take_succ_eq_append_getElem hjl, List.flatMap_append, List.append_assoc]; simp
              have hal : (acc ++ (s.secs.take j).flatMap secT).length ≤ 300000000 := by
                have h1 := flatT_len secT 33 secT_len (s.secs.take j)
                rw [List.length_take] at h1
                rw [List.length_append]
                omega
              generalize acc ++ (s.secs.take j).flatMap secT = acj at *
              generalize s.secs[j] = x at *
              rw [hsa]
              have HSA := Lib.hid hsa
              clear hsa hcs hsec
              obtain ⟨V, hV⟩ : ∃ V, wr.alloc (.cells #[.int .i64 x.res, .int .i64 x.frm, .int .i64 x.to] 85) = V := ⟨_, rfl⟩
              have hd : Blk V wr.heap.size 85 #[.int .i64 x.res, .int .i64 x.frm, .int .i64 x.to] := by rw [← hV]; exact Blk.new _ _ _
              have hkV : Keep [] wo V := by rw [← hV]; exact hkj.alloc _
              have hF : ∀ w', Keep [] V w' → w'.cell? ⟨wr.heap.size, 0, none⟩ = some (.int .i64 x.res) ∧ w'.cell? ⟨wr.heap.size, 1, none⟩ = some (.int .i64 x.frm) ∧ w'.cell? ⟨wr.heap.size, 2, none⟩ = some (.int .i64 x.to) := fun w' kk => ⟨(hd.keep0 kk).cell 0, (hd.keep0 kk).cell 1, (hd.keep0 kk).cell 2⟩
              go_upto_region 19 with fail
              have hr1 := decL_len10 x.res
              have hr2 := decL_len10 x.frm
              have hr3 := decL_len10 x.to
              refine wp_region_flow (Keep [] V) rfl (by kernel_rfl) (Keep.refl _ _).drew ?_
              (refine fl_val (v := ?_) (by rfl) ?_ ?_; rotate_left; (intro w' hS; obtain ⟨f1,f2,f3⟩ := hF w' hS; go_simp; with_reducible rfl); simp only [Act.put, List.setIfInBounds_toArray, List.set_cons_zero, List.set_cons_succ])
              (refine fl_val (v := ?_) (by rfl) ?_ ?_; rotate_left; (intro w' hS; obtain ⟨f1,f2,f3⟩ := hF w' hS; go_simp; with_reducible rfl); simp only [Act.put, List.setIfInBounds_toArray, List.set_cons_zero, List.set_cons_succ])
              (refine fl_val (v := ?_) (by rfl) ?_ ?_; rotate_left; (intro w' hS; obtain ⟨f1,f2,f3⟩ := hF w' hS; go_simp; with_reducible rfl); simp only [Act.put, List.setIfInBounds_toArray, List.set_cons_zero, List.set_cons_succ])
              refine fl_call (f := 38) (v := strOf (decL (clampN x.res))) (by rfl) rfl (by simp only [List.map_toArray, List.map_cons, List.map_nil]; rfl) Try.func38 (by kernel_rfl) (by kernel_rfl) (fun w' hS => ((text_fix x.res w').mono (fun e w'' h => ⟨h.1, hS.then h.2⟩))) ?_; simp only [Act.put, List.setIfInBounds_toArray, List.set_cons_zero, List.set_cons_succ]
              (refine fl_val (v := strOf ([32] ++ decL (clampN x.res))) (by rfl) (fun w' _ => exec_add rfl rfl (by simp; omega) w') ?_; simp only [Act.put, List.setIfInBounds_toArray, List.set_cons_zero, List.set_cons_succ])
              (refine fl_val (v := strOf (([32] ++ decL (clampN x.res)) ++ [58])) (by rfl) (fun w' _ => exec_add rfl rfl (by simp; omega) w') ?_; simp only [Act.put, List.setIfInBounds_toArray, List.set_cons_zero, List.set_cons_succ])
              (refine fl_val (v := ?_) (by rfl) ?_ ?_; rotate_left; (intro w' hS; obtain ⟨f1,f2,f3⟩ := hF w' hS; go_simp; with_reducible rfl); simp only [Act.put, List.setIfInBounds_toArray, List.set_cons_zero, List.set_cons_succ])
              (refine fl_val (v := ?_) (by rfl) ?_ ?_; rotate_left; (intro w' hS; obtain ⟨f1,f2,f3⟩ := hF w' hS; go_simp; with_reducible rfl); simp only [Act.put, List.setIfInBounds_toArray, List.set_cons_zero, List.set_cons_succ])
              refine fl_call (f := 38) (v := strOf (decL (clampN x.frm))) (by rfl) rfl (by simp only [List.map_toArray, List.map_cons, List.map_nil]; rfl) Try.func38 (by kernel_rfl) (by kernel_rfl) (fun w' hS => ((text_fix x.frm w').mono (fun e w'' h => ⟨h.1, hS.then h.2⟩))) ?_; simp only [Act.put, List.setIfInBounds_toArray, List.set_cons_zero, List.set_cons_succ]
              (refine fl_val (v := strOf ((([32] ++ decL (clampN x.res)) ++ [58]) ++ decL (clampN x.frm))) (by rfl) (fun w' _ => exec_add rfl rfl (by simp; omega) w') ?_; simp only [Act.put, List.setIfInBounds_toArray, List.set_cons_zero, List.set_cons_succ])
              (refine fl_val (v := strOf (((([32] ++ decL (clampN x.res)) ++ [58]) ++ decL (clampN x.frm)) ++ [45])) (by rfl) (fun w' _ => exec_add rfl rfl (by simp; omega) w') ?_; simp only [Act.put, List.setIfInBounds_toArray, List.set_cons_zero, List.set_cons_succ])
              (refine fl_val (v := ?_) (by rfl) ?_ ?_; rotate_left; (intro w' hS; obtain ⟨f1,f2,f3⟩ := hF w' hS; go_simp; with_reducible rfl); simp only [Act.put, List.setIfInBounds_toArray, List.set_cons_zero, List.set_cons_succ])
              (refine fl_val (v := ?_) (by rfl) ?_ ?_; rotate_left; (intro w' hS; obtain ⟨f1,f2,f3⟩ := hF w' hS; go_simp; with_reducible rfl); simp only [Act.put, List.setIfInBounds_toArray, List.set_cons_zero, List.set_cons_succ])
              refine fl_call (f := 38) (v := strOf (decL (clampN x.to))) (by rfl) rfl (by simp only [List.map_toArray, List.map_cons, List.map_nil]; rfl) Try.func38 (by kernel_rfl) (by kernel_rfl) (fun w' hS => ((text_fix x.to w').mono (fun e w'' h => ⟨h.1, hS.then h.2⟩))) ?_; simp only [Act.put, List.setIfInBounds_toArray, List.set_cons_zero, List.set_cons_succ]
              (refine fl_val (v := strOf ((((([32] ++ decL (clampN x.res)) ++ [58]) ++ decL (clampN x.frm)) ++ [45]) ++ decL (clampN x.to))) (by rfl) (fun w' _ => exec_add rfl rfl (by simp; omega) w') ?_; simp only [Act.put, List.setIfInBounds_toArray, List.set_cons_zero, List.set_cons_succ])
              (refine fl_val (v := strOf (acj ++ ((((([32] ++ decL (clampN x.res)) ++ [58]) ++ decL (clampN x.frm)) ++ [45]) ++ decL (clampN x.to)))) (by rfl) (fun w' _ => exec_add rfl rfl (by simp; omega) w') ?_; simp only [Act.put, List.setIfInBounds_toArray, List.set_cons_zero, List.set_cons_succ])
              (refine fl_val (v := ?_) (by rfl) ?_ ?_; rotate_left; (intro w' hS; obtain ⟨f1,f2,f3⟩ := hF w' hS; go_simp; with_reducible rfl); simp only [Act.put, List.setIfInBounds_toArray, List.set_cons_zero, List.set_cons_succ])
              refine fl_nil ?_
              intro w4 hS
              go_wp2
              go_roundw
              case rel => exact ⟨j + 1, by omega, by go_num, by rw [hnj.out]; simp [secT], hkV.then hS⟩
              case measure => simp [intOf]; omega
            · obtain rfl : j = s.secs.length := by omega
              rw [List.take_length]
              clear hsec hj hjl
              go_wp2
              go_roundw
              case rel => exact ⟨i + 1, by omega, by go_num, by rw [hnx2.out], HKr.out.then hkj⟩
              case measure => simp [intOf]; omega
        · have hpt : Hid (partT s 119 = s.words.flatMap wordT) := rfl
          rw [hpt.out] at hlen2 hnx2
          clear hpt hnr hCL
          have HAr := HAt.out.keep0 HKr.out
          have hword : 0 < s.words.length → ∃ b o, v.wa = some ⟨b, o, none⟩ ∧ ∀ w', Keep [] wr w' → ∀ k, (hk : k < s.words.length) → w'.cell? ⟨b, o + k, none⟩ = some (.int .u32 (s.words[k] : Int)) := fun h0 => by
            obtain ⟨b, o, e, hb, hc⟩ := HAr.word h0
            exact ⟨b, o, e, fun w' kk j hj => (kk.cell (p := ⟨b, o + j, none⟩) hb (by simp)).trans (hc j hj)⟩
          have hwok := HAr.ok
          clear HAr
          generalize wr = wo at *
          go_wp2
          go_loopw [88, 5] (fun v88 v5 wr => ∃ j : Nat, j ≤ s.words.length ∧ v88 = .int .i64 (j : Int) ∧ v5 = strOf (acc ++ (s.words.take j).flatMap wordT) ∧ Keep [] wo wr) (fun v88 _ _ => s.words.length - (intOf v88).toNat)
          case atStart => exact ⟨0, Nat.zero_le _, rfl, by simp, Keep.refl _ _⟩
          case round =>
            obtain ⟨j, hj, rfl, rfl, hkj⟩ := hrel
            by_cases hjl : j < s.words.length
            · obtain ⟨sb, so, hsa, hcs⟩ := hword (by omega)
              have q1 := hcs wr hkj j hjl
              have hpj0 : (0 : Int) ≤ (j : Int) := by omega
              have hpj1 : (j : Int) < (s.words.length : Int) := by omega
              have hnj : Hid (acc ++ (s.words.take (j + 1)).flatMap wordT = (acc ++ (s.words.take j).flatMap wordT) ++ 32 :: hexL s.words[j]) := by show _ = _; rw [List.take_succ_eq_append_getElem hjl, List.flatMap_append, List.append_assoc]; simp [wordT]
              have hal : (acc ++ (s.words.take j).flatMap wordT).length ≤ 300000000 := by
                have h1 := flatT_len wordT 9 (fun x => by unfold wordT; rw [List.length_cons, hexL_len]; omega) (s.words.take j)
                rw [List.length_take] at h1
                rw [List.length_append]
                omega
              have hx := hwok _ (List.getElem_mem hjl)
              generalize acc ++ (s.words.take j).flatMap wordT = acj at *
              generalize s.words[j] = x at *
              have hr1 := hexL_len x
              have had1 : ∀ W, (binOp .add 9 (.string { data := #[32] }) (strOf (hexL x))).run Try.prog W = .ok (strOf (32 :: hexL x)) W := fun W => run_add_str (P := Try.prog) 9 [32] (hexL x) (by simp; omega) W
              have had2 : ∀ W, (binOp .add 9 (strOf acj) (strOf (32 :: hexL x))).run Try.prog W = .ok (strOf (acj ++ 32 :: hexL x)) W := fun W => run_add_str (P := Try.prog) 9 acj (32 :: hexL x) (by simp; omega) W
              rw [hsa]
              clear hsa hcs hword
              go_wp2_with fail
              refine (word_fix x _ hx).mono ?_
              rintro e w3 ⟨rfl, k3⟩
              go_wp2
              go_roundw
              case rel => exact ⟨j + 1, by omega, by go_num, by rw [hnj.out], hkj.then k3⟩
              case measure => simp [intOf]; omega
            · obtain rfl : j = s.words.length := by omega
              rw [List.take_length]
              clear hword hj hjl
              go_wp2
              go_roundw
              case rel => exact ⟨i + 1, by omega, by go_num, by rw [hnx2.out], HKr.out.then hkj⟩
              case measure => simp [intOf]; omega
      · obtain rfl : i = p.size := by omega
        have HF : Hid (lineT s = bytesOf wd ++ partsT s p p.size) := HLT.out.trans (if_pos trivial)
        clear hlt hi hkr
        go_wp2
        go_ret
        exact ⟨by rw [HF.out]; rfl, hk2.then HKr.out⟩
end Go.Proofs.Ytoepkhkaifgddaa
