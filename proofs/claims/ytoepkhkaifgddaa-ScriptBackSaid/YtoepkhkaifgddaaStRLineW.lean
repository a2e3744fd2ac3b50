/- The line of a step, as the document tells it. No condition. The line of a step: the document's answer; walked. Condition: at most a million sections, and words. -/
import Derived.Test.YtoepkhkaifgddaaStLineW
import Derived.Test.YtoepkhkaifgddaaStRRight
namespace Go.Proofs.Ytoepkhkaifgddaa
open Go.RowKit

def lineR (s : Stp) (p : ByteArray) : List UInt8 :=
  (if hasB p 97 = true then 32 :: decL (clampN s.a) else []) ++ ((if hasB p 110 = true then 32 :: decL (clampN s.n) else []) ++ ((if hasB p 104 = true then wordT s.n.toNat else []) ++ (s.secs.flatMap secT ++ s.words.flatMap wordT)))
theorem line_ref {s : Stp} (hr : rightP s = true) : lineT s = bytesOf (shp s.kind).1 ++ lineR s (shp s.kind).2 := by
  have hr0 := hr
  unfold rightP at hr0
  simp only [Bool.and_eq_true] at hr0
  have h115 : hasB (shp s.kind).2 115 = false → s.secs = [] := fun h => by
    have h1 := hr0.1.2.2
    rw [h] at h1
    cases hs : s.secs with
    | nil => rfl
    | cons x l => rw [hs] at h1; simp at h1
  have h119 : hasB (shp s.kind).2 119 = false → s.words = [] := fun h => by
    have h1 := hr0.2
    rw [h] at h1
    exact List.length_eq_zero_iff.1 (by simpa using h1)
  have hik := hr0.1.1.1.1
  unfold lineT
  rw [if_pos hr]
  congr 1
  clear hr0
  unfold isKind at hik
  simp only [Bool.and_eq_true, decide_eq_true_eq] at hik
  obtain ⟨kind, a, n, secs, words⟩ := s
  dsimp only at *
  have : kind = 1 ∨ kind = 2 ∨ kind = 3 ∨ kind = 4 ∨ kind = 5 ∨ kind = 6 ∨ kind = 7 ∨ kind = 8 ∨ kind = 9 ∨ kind = 10 ∨ kind = 11 ∨ kind = 12 ∨ kind = 13 ∨ kind = 14 ∨ kind = 15 := by omega
  clear hik hr
  unfold lineR
  rcases this with rfl | rfl | rfl | rfl | rfl | rfl | rfl | rfl | rfl | rfl | rfl | rfl | rfl | rfl | rfl
  · have e0 : partsT ⟨1, a, n, secs, words⟩ (shp 1).2 (shp 1).2.size = partT ⟨1, a, n, secs, words⟩ 110 ++ ([]) := rfl
    have ea : hasB (shp 1).2 97 = false := by decide
    have en : hasB (shp 1).2 110 = true := by decide
    have eh : hasB (shp 1).2 104 = false := by decide
    have es : hasB (shp 1).2 115 = false := by decide
    have ew : hasB (shp 1).2 119 = false := by decide
    obtain rfl := h115 es
    obtain rfl := h119 ew
    rw [e0, ea, en, eh]
    simp [partT]
  · have e0 : partsT ⟨2, a, n, secs, words⟩ (shp 2).2 (shp 2).2.size = partT ⟨2, a, n, secs, words⟩ 97 ++ (partT ⟨2, a, n, secs, words⟩ 110 ++ (partT ⟨2, a, n, secs, words⟩ 115 ++ ([]))) := rfl
    have ea : hasB (shp 2).2 97 = true := by decide
    have en : hasB (shp 2).2 110 = true := by decide
    have eh : hasB (shp 2).2 104 = false := by decide
    have es : hasB (shp 2).2 115 = true := by decide
    have ew : hasB (shp 2).2 119 = false := by decide
    obtain rfl := h119 ew
    rw [e0, ea, en, eh]
    simp [partT]
  · have e0 : partsT ⟨3, a, n, secs, words⟩ (shp 3).2 (shp 3).2.size = partT ⟨3, a, n, secs, words⟩ 97 ++ ([]) := rfl
    have ea : hasB (shp 3).2 97 = true := by decide
    have en : hasB (shp 3).2 110 = false := by decide
    have eh : hasB (shp 3).2 104 = false := by decide
    have es : hasB (shp 3).2 115 = false := by decide
    have ew : hasB (shp 3).2 119 = false := by decide
    obtain rfl := h115 es
    obtain rfl := h119 ew
    rw [e0, ea, en, eh]
    simp [partT]
  · have e0 : partsT ⟨4, a, n, secs, words⟩ (shp 4).2 (shp 4).2.size = partT ⟨4, a, n, secs, words⟩ 97 ++ (partT ⟨4, a, n, secs, words⟩ 110 ++ ([])) := rfl
    have ea : hasB (shp 4).2 97 = true := by decide
    have en : hasB (shp 4).2 110 = true := by decide
    have eh : hasB (shp 4).2 104 = false := by decide
    have es : hasB (shp 4).2 115 = false := by decide
    have ew : hasB (shp 4).2 119 = false := by decide
    obtain rfl := h115 es
    obtain rfl := h119 ew
    rw [e0, ea, en, eh]
    simp [partT]
  · have e0 : partsT ⟨5, a, n, secs, words⟩ (shp 5).2 (shp 5).2.size = partT ⟨5, a, n, secs, words⟩ 97 ++ ([]) := rfl
    have ea : hasB (shp 5).2 97 = true := by decide
    have en : hasB (shp 5).2 110 = false := by decide
    have eh : hasB (shp 5).2 104 = false := by decide
    have es : hasB (shp 5).2 115 = false := by decide
    have ew : hasB (shp 5).2 119 = false := by decide
    obtain rfl := h115 es
    obtain rfl := h119 ew
    rw [e0, ea, en, eh]
    simp [partT]
  · have e0 : partsT ⟨6, a, n, secs, words⟩ (shp 6).2 (shp 6).2.size = partT ⟨6, a, n, secs, words⟩ 104 ++ ([]) := rfl
    have ea : hasB (shp 6).2 97 = false := by decide
    have en : hasB (shp 6).2 110 = false := by decide
    have eh : hasB (shp 6).2 104 = true := by decide
    have es : hasB (shp 6).2 115 = false := by decide
    have ew : hasB (shp 6).2 119 = false := by decide
    obtain rfl := h115 es
    obtain rfl := h119 ew
    rw [e0, ea, en, eh]
    simp [partT]
  · have e0 : partsT ⟨7, a, n, secs, words⟩ (shp 7).2 (shp 7).2.size = partT ⟨7, a, n, secs, words⟩ 104 ++ ([]) := rfl
    have ea : hasB (shp 7).2 97 = false := by decide
    have en : hasB (shp 7).2 110 = false := by decide
    have eh : hasB (shp 7).2 104 = true := by decide
    have es : hasB (shp 7).2 115 = false := by decide
    have ew : hasB (shp 7).2 119 = false := by decide
    obtain rfl := h115 es
    obtain rfl := h119 ew
    rw [e0, ea, en, eh]
    simp [partT]
  · have e0 : partsT ⟨8, a, n, secs, words⟩ (shp 8).2 (shp 8).2.size = partT ⟨8, a, n, secs, words⟩ 97 ++ (partT ⟨8, a, n, secs, words⟩ 104 ++ ([])) := rfl
    have ea : hasB (shp 8).2 97 = true := by decide
    have en : hasB (shp 8).2 110 = false := by decide
    have eh : hasB (shp 8).2 104 = true := by decide
    have es : hasB (shp 8).2 115 = false := by decide
    have ew : hasB (shp 8).2 119 = false := by decide
    obtain rfl := h115 es
    obtain rfl := h119 ew
    rw [e0, ea, en, eh]
    simp [partT]
  · have e0 : partsT ⟨9, a, n, secs, words⟩ (shp 9).2 (shp 9).2.size = [] := rfl
    have ea : hasB (shp 9).2 97 = false := by decide
    have en : hasB (shp 9).2 110 = false := by decide
    have eh : hasB (shp 9).2 104 = false := by decide
    have es : hasB (shp 9).2 115 = false := by decide
    have ew : hasB (shp 9).2 119 = false := by decide
    obtain rfl := h115 es
    obtain rfl := h119 ew
    rw [e0, ea, en, eh]
    simp [partT]
  · have e0 : partsT ⟨10, a, n, secs, words⟩ (shp 10).2 (shp 10).2.size = partT ⟨10, a, n, secs, words⟩ 119 ++ ([]) := rfl
    have ea : hasB (shp 10).2 97 = false := by decide
    have en : hasB (shp 10).2 110 = false := by decide
    have eh : hasB (shp 10).2 104 = false := by decide
    have es : hasB (shp 10).2 115 = false := by decide
    have ew : hasB (shp 10).2 119 = true := by decide
    obtain rfl := h115 es
    rw [e0, ea, en, eh]
    simp [partT]
  · have e0 : partsT ⟨11, a, n, secs, words⟩ (shp 11).2 (shp 11).2.size = [] := rfl
    have ea : hasB (shp 11).2 97 = false := by decide
    have en : hasB (shp 11).2 110 = false := by decide
    have eh : hasB (shp 11).2 104 = false := by decide
    have es : hasB (shp 11).2 115 = false := by decide
    have ew : hasB (shp 11).2 119 = false := by decide
    obtain rfl := h115 es
    obtain rfl := h119 ew
    rw [e0, ea, en, eh]
    simp [partT]
  · have e0 : partsT ⟨12, a, n, secs, words⟩ (shp 12).2 (shp 12).2.size = [] := rfl
    have ea : hasB (shp 12).2 97 = false := by decide
    have en : hasB (shp 12).2 110 = false := by decide
    have eh : hasB (shp 12).2 104 = false := by decide
    have es : hasB (shp 12).2 115 = false := by decide
    have ew : hasB (shp 12).2 119 = false := by decide
    obtain rfl := h115 es
    obtain rfl := h119 ew
    rw [e0, ea, en, eh]
    simp [partT]
  · have e0 : partsT ⟨13, a, n, secs, words⟩ (shp 13).2 (shp 13).2.size = partT ⟨13, a, n, secs, words⟩ 97 ++ (partT ⟨13, a, n, secs, words⟩ 104 ++ ([])) := rfl
    have ea : hasB (shp 13).2 97 = true := by decide
    have en : hasB (shp 13).2 110 = false := by decide
    have eh : hasB (shp 13).2 104 = true := by decide
    have es : hasB (shp 13).2 115 = false := by decide
    have ew : hasB (shp 13).2 119 = false := by decide
    obtain rfl := h115 es
    obtain rfl := h119 ew
    rw [e0, ea, en, eh]
    simp [partT]
  · have e0 : partsT ⟨14, a, n, secs, words⟩ (shp 14).2 (shp 14).2.size = [] := rfl
    have ea : hasB (shp 14).2 97 = false := by decide
    have en : hasB (shp 14).2 110 = false := by decide
    have eh : hasB (shp 14).2 104 = false := by decide
    have es : hasB (shp 14).2 115 = false := by decide
    have ew : hasB (shp 14).2 119 = false := by decide
    obtain rfl := h115 es
    obtain rfl := h119 ew
    rw [e0, ea, en, eh]
    simp [partT]
  · have e0 : partsT ⟨15, a, n, secs, words⟩ (shp 15).2 (shp 15).2.size = [] := rfl
    have ea : hasB (shp 15).2 97 = false := by decide
    have en : hasB (shp 15).2 110 = false := by decide
    have eh : hasB (shp 15).2 104 = false := by decide
    have es : hasB (shp 15).2 115 = false := by decide
    have ew : hasB (shp 15).2 119 = false := by decide
    obtain rfl := h115 es
    obtain rfl := h119 ew
    rw [e0, ea, en, eh]
    simp [partT]
end Go.Proofs.Ytoepkhkaifgddaa

namespace Go.Proofs.Ytoepkhkaifgddaa
open Go.RowKit

set_option maxRecDepth 100000 in
set_option maxHeartbeats 16000000 in
theorem rline_any (s : Stp) (v : StpV) (w : World) (h : StepAt w v s) (hls : s.secs.length ≤ 1000000) (hlw : s.words.length ≤ 1000000) :
    Calls Try.prog 27 #[.agg #[.int .i64 s.kind, .int .i64 s.a, .int .i64 s.n, .slice v.sa s.secs.length v.sc, .slice v.wa s.words.length v.wc]] w fun e w' => e = .returned (strOf (lineT s)) ∧ Keep [] w w' := by
  have HS := fun W => Lib.hid (rform_any s.kind W)
  have hb0 := Blk.new w 45 #[.int .i64 s.kind, .int .i64 s.a, .int .i64 s.n, .slice v.sa s.secs.length v.sc, .slice v.wa s.words.length v.wc]
  have hk0 := (Keep.refl [] w).alloc (.cells #[.int .i64 s.kind, .int .i64 s.a, .int .i64 s.n, .slice v.sa s.secs.length v.sc, .slice v.wa s.words.length v.wc] 45)
  have HLT : Hid (rightP s = false → lineT s = []) := fun h => by unfold lineT; rw [h]; rfl
  have HRL := fun hr => Lib.hid (line_ref (s := s) hr)
  have hRH := fun (hr : rightP s = true) i hi hc => right_h hr (i := i) hi hc
  have hsh3 := shp_size s.kind
  have hwl : (bytesOf (shp s.kind).1).length ≤ 10 := by rw [bytesOf_len]; exact shp_wlen s.kind
  have hnh := shp_nh s.kind
  generalize shp s.kind = sp at *
  obtain ⟨wd, p⟩ := sp
  dsimp only at hRH hsh3 hwl HRL hnh
  obtain ⟨W1, hW1⟩ : ∃ W1, w.alloc (.cells #[.int .i64 s.kind, .int .i64 s.a, .int .i64 s.n, .slice v.sa s.secs.length v.sc, .slice v.wa s.words.length v.wc] 45) = W1 := ⟨_, rfl⟩
  rw [hW1] at hb0 hk0
  have hG : ∀ w', Keep [] W1 w' → w'.cell? ⟨w.heap.size, 0, none⟩ = some (.int .i64 s.kind) ∧ w'.cell? ⟨w.heap.size, 1, none⟩ = some (.int .i64 s.a) ∧ w'.cell? ⟨w.heap.size, 2, none⟩ = some (.int .i64 s.n) ∧ w'.cell? ⟨w.heap.size, 3, none⟩ = some (.slice v.sa s.secs.length v.sc) ∧ w'.cell? ⟨w.heap.size, 4, none⟩ = some (.slice v.wa s.words.length v.wc) := fun w' k =>
    ⟨(hb0.keep0 k).cell 0, (hb0.keep0 k).cell 1, (hb0.keep0 k).cell 2, (hb0.keep0 k).cell 3, (hb0.keep0 k).cell 4⟩
  have HR := Lib.hid (rright_any s v W1 (h.keep0 hk0))
  have HAt := Lib.hid (h.keep0 hk0)
  have HK0 := Lib.hid hk0
  have HHa := fun W => Lib.hid (rhas_any p 97 (by decide) (by omega) W)
  have HHn := fun W => Lib.hid (rhas_any p 110 (by decide) (by omega) W)
  have HHh := fun W => Lib.hid (rhas_any p 104 (by decide) (by omega) W)
  rw [show ((97 : Nat) : Int) = 97 from rfl] at HHa
  rw [show ((110 : Nat) : Int) = 110 from rfl] at HHn
  rw [show ((104 : Nat) : Int) = 104 from rfl] at HHh
  have HG := Lib.hid hG
  clear hG
  obtain ⟨f0, f1, f2, f3, f4⟩ := HG.out _ (Keep.refl _ _)
  clear h hb0 hk0
  go_enter Try.func27, Try.ntmps27
  go_wp2_with fail
  refine HR.out.mono ?_
  rintro e w2 ⟨rfl, k2⟩
  obtain ⟨g0, g1, g2, g3, g4⟩ := HG.out _ k2
  clear f0 f1 f2 f3 f4 hW1
  cases hr : rightP s
  · have HF := Lib.hid (HLT.out hr)
    clear hr
    go_wp2
    go_ret
    exact ⟨by rw [HF.out]; rfl, HK0.out.then k2⟩
  · have HF := HRL hr
    have hRN := hRH hr
    have hh104 : hasB p 104 = true → ∃ i, i < p.size ∧ byteAt p i = 104 := fun hh => by
      obtain ⟨i, hi, e⟩ := (hasB_iff p 104 (by decide)).1 hh
      refine ⟨i, hi, ?_⟩
      unfold byteAt
      rw [dif_pos hi, e]
      rfl
    have hn04 : hasB p 104 = true → 0 ≤ s.n ∧ s.n ≤ 4294967295 := fun hh => by
      obtain ⟨i, hi, e⟩ := hh104 hh
      exact hRN i hi e
    clear hr HRL hRH hRN hh104 HLT HR
    unfold lineR at HF
    generalize hasB p 97 = ha at *
    generalize hasB p 110 = hn at *
    generalize hasB p 104 = hh at *
    go_wp2_with fail
    refine (HS _).out.mono ?_
    rintro e w3 ⟨rfl, k3⟩
    have k3' := k2.then k3
    clear k2 k3 HS
    obtain ⟨a0, a1, a2, a3, a4⟩ := HG.out _ k3'
    clear g0 g1 g2 g3 g4
    have hwd : Value.string wd = strOf (bytesOf wd) := strOf_of rfl
    rw [hwd]
    clear hwd
    generalize bytesOf wd = T0 at *
    have hda := decL_len10 s.a
    have hdn := decL_len10 s.n
    cases ha
    · skip
      go_wp2_with fail
      refine (HHa _).out.mono ?_
      rintro e w4 ⟨rfl, rfl⟩
      cases hn
      · skip
        go_wp2_with fail
        refine (HHn _).out.mono ?_
        rintro e w4 ⟨rfl, rfl⟩
        cases hh
        · skip
          go_wp2_with fail
          refine (HHh _).out.mono ?_
          rintro e w4 ⟨rfl, rfl⟩
          obtain ⟨w4, hw4⟩ : ∃ w4, w4 = w3 := ⟨_, rfl⟩
          rw [← hw4] at k3' a0 a1 a2 a3 a4 ⊢
          clear hw4
          have hTl : (T0).length ≤ 100 := by (try simp) <;> omega
          have HFT : Hid (lineT s = (T0) ++ (s.secs.flatMap secT ++ s.words.flatMap wordT)) := by show _ = _; rw [HF.out]; simp
          generalize (T0) = T at *
          have HKc := Lib.hid (k3')
          have hG2 := Lib.hid (fun w' (k : Keep [] _ w') => HG.out w' (HKc.out.then k))
          have HA4 := HAt.out.keep0 HKc.out
          have hsec : 0 < s.secs.length → ∃ b o, v.sa = some ⟨b, o, none⟩ ∧ ∀ w', Keep [] w4 w' → ∀ k, (hk : k < s.secs.length) → w'.cell? ⟨b, o + k * 3, none⟩ = some (.int .i64 s.secs[k].res) ∧ w'.cell? ⟨b, o + k * 3 + 1, none⟩ = some (.int .i64 s.secs[k].frm) ∧ w'.cell? ⟨b, o + k * 3 + 2, none⟩ = some (.int .i64 s.secs[k].to) := fun h0 => by
            obtain ⟨b, o, e, hb, hc⟩ := HA4.sec h0
            exact ⟨b, o, e, fun w' kk j hj => ⟨(kk.cell (p := ⟨b, o + j * 3, none⟩) hb (by simp)).trans (hc j hj 0 _ rfl), (kk.cell (p := ⟨b, o + j * 3 + 1, none⟩) hb (by simp)).trans (hc j hj 1 _ rfl), (kk.cell (p := ⟨b, o + j * 3 + 2, none⟩) hb (by simp)).trans (hc j hj 2 _ rfl)⟩⟩
          have hword : 0 < s.words.length → ∃ b o, v.wa = some ⟨b, o, none⟩ ∧ ∀ w', Keep [] w4 w' → ∀ k, (hk : k < s.words.length) → w'.cell? ⟨b, o + k, none⟩ = some (.int .u32 (s.words[k] : Int)) := fun h0 => by
            obtain ⟨b, o, e, hb, hc⟩ := HA4.word h0
            exact ⟨b, o, e, fun w' kk j hj => (kk.cell (p := ⟨b, o + j, none⟩) hb (by simp)).trans (hc j hj)⟩
          have hwok := HA4.ok
          clear HA4 HF
          go_wp2
          go_loopw [5, 3] (fun v5 v3 wr => ∃ j : Nat, j ≤ s.secs.length ∧ v5 = .int .i64 (j : Int) ∧ v3 = strOf (T ++ (s.secs.take j).flatMap secT) ∧ Keep [] w4 wr) (fun v5 _ _ => s.secs.length - (intOf v5).toNat)
          case atStart => exact ⟨0, Nat.zero_le _, rfl, by simp, Keep.refl _ _⟩
          case round =>
            obtain ⟨j, hj, rfl, rfl, hkj⟩ := hrel
            obtain ⟨b0, b1, b2, b3, b4⟩ := hG2.out _ hkj
            by_cases hjl : j < s.secs.length
            · obtain ⟨sb, so, hsa, hcs⟩ := hsec (by omega)
              obtain ⟨q1, q2, q3⟩ := hcs wr hkj j hjl
              have hpj0 : (0 : Int) ≤ (j : Int) := by omega
              have hpj1 : (j : Int) < (s.secs.length : Int) := by omega
              have hnj : Hid (T ++ (s.secs.take (j + 1)).flatMap secT = (T ++ (s.secs.take j).flatMap secT) ++ secT s.secs[j]) := by show _ = _; rw [List.take_succ_eq_append_getElem hjl, List.flatMap_append, List.append_assoc]; simp
              have hal : (T ++ (s.secs.take j).flatMap secT).length ≤ 300000000 := by
                have h1 := flatT_len secT 33 secT_len (s.secs.take j)
                rw [List.length_take] at h1
                rw [List.length_append]
                omega
              generalize T ++ (s.secs.take j).flatMap secT = acj at *
              generalize s.secs[j] = x at *
              rw [hsa] at b3
              clear hsa hcs hsec hword
              obtain ⟨V, hV⟩ : ∃ V, wr.alloc (.cells #[.int .i64 x.res, .int .i64 x.frm, .int .i64 x.to] 85) = V := ⟨_, rfl⟩
              have hd : Blk V wr.heap.size 85 #[.int .i64 x.res, .int .i64 x.frm, .int .i64 x.to] := by rw [← hV]; exact Blk.new _ _ _
              have hkV : Keep [] w4 V := by rw [← hV]; exact hkj.alloc _
              have hF : ∀ w', Keep [] V w' → w'.cell? ⟨wr.heap.size, 0, none⟩ = some (.int .i64 x.res) ∧ w'.cell? ⟨wr.heap.size, 1, none⟩ = some (.int .i64 x.frm) ∧ w'.cell? ⟨wr.heap.size, 2, none⟩ = some (.int .i64 x.to) := fun w' kk => ⟨(hd.keep0 kk).cell 0, (hd.keep0 kk).cell 1, (hd.keep0 kk).cell 2⟩
              go_upto_region 14 with fail
              have hr1 := decL_len10 x.res
              have hr2 := decL_len10 x.frm
              have hr3 := decL_len10 x.to
              refine wp_region_flow (Keep [] V) rfl (by kernel_rfl) (Keep.refl _ _).drew ?_
              (refine fl_val (v := ?_) (by rfl) ?_ ?_; rotate_left; (intro w' hS; obtain ⟨f1,f2,f3⟩ := hF w' hS; go_simp; with_reducible rfl); simp only [Act.put, List.setIfInBounds_toArray, List.set_cons_zero, List.set_cons_succ])
              (refine fl_val (v := ?_) (by rfl) ?_ ?_; rotate_left; (intro w' hS; obtain ⟨f1,f2,f3⟩ := hF w' hS; go_simp; with_reducible rfl); simp only [Act.put, List.setIfInBounds_toArray, List.set_cons_zero, List.set_cons_succ])
              (refine fl_val (v := ?_) (by rfl) ?_ ?_; rotate_left; (intro w' hS; obtain ⟨f1,f2,f3⟩ := hF w' hS; go_simp; with_reducible rfl); simp only [Act.put, List.setIfInBounds_toArray, List.set_cons_zero, List.set_cons_succ])
              refine fl_call (f := 42) (v := strOf (decL (clampN x.res))) (by rfl) rfl (by simp only [List.map_toArray, List.map_cons, List.map_nil]; rfl) Try.func42 (by kernel_rfl) (by kernel_rfl) (fun w' hS => ((rtext_fix x.res w').mono (fun e w'' h => ⟨h.1, hS.then h.2⟩))) ?_; simp only [Act.put, List.setIfInBounds_toArray, List.set_cons_zero, List.set_cons_succ]
              (refine fl_val (v := strOf ([32] ++ decL (clampN x.res))) (by rfl) (fun w' _ => exec_add rfl rfl (by simp; omega) w') ?_; simp only [Act.put, List.setIfInBounds_toArray, List.set_cons_zero, List.set_cons_succ])
              (refine fl_val (v := strOf (([32] ++ decL (clampN x.res)) ++ [58])) (by rfl) (fun w' _ => exec_add rfl rfl (by simp; omega) w') ?_; simp only [Act.put, List.setIfInBounds_toArray, List.set_cons_zero, List.set_cons_succ])
              (refine fl_val (v := ?_) (by rfl) ?_ ?_; rotate_left; (intro w' hS; obtain ⟨f1,f2,f3⟩ := hF w' hS; go_simp; with_reducible rfl); simp only [Act.put, List.setIfInBounds_toArray, List.set_cons_zero, List.set_cons_succ])
              (refine fl_val (v := ?_) (by rfl) ?_ ?_; rotate_left; (intro w' hS; obtain ⟨f1,f2,f3⟩ := hF w' hS; go_simp; with_reducible rfl); simp only [Act.put, List.setIfInBounds_toArray, List.set_cons_zero, List.set_cons_succ])
              refine fl_call (f := 42) (v := strOf (decL (clampN x.frm))) (by rfl) rfl (by simp only [List.map_toArray, List.map_cons, List.map_nil]; rfl) Try.func42 (by kernel_rfl) (by kernel_rfl) (fun w' hS => ((rtext_fix x.frm w').mono (fun e w'' h => ⟨h.1, hS.then h.2⟩))) ?_; simp only [Act.put, List.setIfInBounds_toArray, List.set_cons_zero, List.set_cons_succ]
              (refine fl_val (v := strOf ((([32] ++ decL (clampN x.res)) ++ [58]) ++ decL (clampN x.frm))) (by rfl) (fun w' _ => exec_add rfl rfl (by simp; omega) w') ?_; simp only [Act.put, List.setIfInBounds_toArray, List.set_cons_zero, List.set_cons_succ])
              (refine fl_val (v := strOf (((([32] ++ decL (clampN x.res)) ++ [58]) ++ decL (clampN x.frm)) ++ [45])) (by rfl) (fun w' _ => exec_add rfl rfl (by simp; omega) w') ?_; simp only [Act.put, List.setIfInBounds_toArray, List.set_cons_zero, List.set_cons_succ])
              (refine fl_val (v := ?_) (by rfl) ?_ ?_; rotate_left; (intro w' hS; obtain ⟨f1,f2,f3⟩ := hF w' hS; go_simp; with_reducible rfl); simp only [Act.put, List.setIfInBounds_toArray, List.set_cons_zero, List.set_cons_succ])
              (refine fl_val (v := ?_) (by rfl) ?_ ?_; rotate_left; (intro w' hS; obtain ⟨f1,f2,f3⟩ := hF w' hS; go_simp; with_reducible rfl); simp only [Act.put, List.setIfInBounds_toArray, List.set_cons_zero, List.set_cons_succ])
              refine fl_call (f := 42) (v := strOf (decL (clampN x.to))) (by rfl) rfl (by simp only [List.map_toArray, List.map_cons, List.map_nil]; rfl) Try.func42 (by kernel_rfl) (by kernel_rfl) (fun w' hS => ((rtext_fix x.to w').mono (fun e w'' h => ⟨h.1, hS.then h.2⟩))) ?_; simp only [Act.put, List.setIfInBounds_toArray, List.set_cons_zero, List.set_cons_succ]
              (refine fl_val (v := strOf ((((([32] ++ decL (clampN x.res)) ++ [58]) ++ decL (clampN x.frm)) ++ [45]) ++ decL (clampN x.to))) (by rfl) (fun w' _ => exec_add rfl rfl (by simp; omega) w') ?_; simp only [Act.put, List.setIfInBounds_toArray, List.set_cons_zero, List.set_cons_succ])
              (refine fl_val (v := strOf (acj ++ ((((([32] ++ decL (clampN x.res)) ++ [58]) ++ decL (clampN x.frm)) ++ [45]) ++ decL (clampN x.to)))) (by rfl) (fun w' _ => exec_add rfl rfl (by simp; omega) w') ?_; simp only [Act.put, List.setIfInBounds_toArray, List.set_cons_zero, List.set_cons_succ])
              (refine fl_val (v := ?_) (by rfl) ?_ ?_; rotate_left; (intro w' hS; obtain ⟨f1,f2,f3⟩ := hF w' hS; go_simp; with_reducible rfl); simp only [Act.put, List.setIfInBounds_toArray, List.set_cons_zero, List.set_cons_succ])
              refine fl_nil ?_
              intro w5 hS
              go_wp2
              go_roundw
              case rel => exact ⟨j + 1, by omega, by go_num, by rw [hnj.out]; simp [secT], hkV.then hS⟩
              case measure => simp [intOf]; omega
            · obtain rfl : j = s.secs.length := by omega
              rw [List.take_length]
              clear hsec hj hjl
              have hU : (T ++ s.secs.flatMap secT).length ≤ 100000000 := by
                have h1 := flatT_len secT 33 secT_len s.secs
                rw [List.length_append]
                omega
              have HFU : Hid (lineT s = (T ++ s.secs.flatMap secT) ++ s.words.flatMap wordT) := by show _ = _; rw [HFT.out, List.append_assoc]
              generalize T ++ s.secs.flatMap secT = U at *
              clear HFT
              have HKj := Lib.hid hkj
              clear hkj
              go_wp2
              go_loopw [7, 3] (fun v7 v3 wr => ∃ j : Nat, j ≤ s.words.length ∧ v7 = .int .i64 (j : Int) ∧ v3 = strOf (U ++ (s.words.take j).flatMap wordT) ∧ Keep [] w4 wr) (fun v7 _ _ => s.words.length - (intOf v7).toNat)
              case atStart => exact ⟨0, Nat.zero_le _, rfl, by simp, HKj.out⟩
              case round =>
                obtain ⟨j, hj, rfl, rfl, hkj⟩ := hrel
                obtain ⟨b0, b1, b2, b3, b4⟩ := hG2.out _ hkj
                by_cases hjl : j < s.words.length
                · obtain ⟨sb, so, hsa, hcs⟩ := hword (by omega)
                  have q1 := hcs wr hkj j hjl
                  have hpj0 : (0 : Int) ≤ (j : Int) := by omega
                  have hpj1 : (j : Int) < (s.words.length : Int) := by omega
                  have hnj : Hid (U ++ (s.words.take (j + 1)).flatMap wordT = (U ++ (s.words.take j).flatMap wordT) ++ 32 :: hexL s.words[j]) := by show _ = _; rw [List.take_succ_eq_append_getElem hjl, List.flatMap_append, List.append_assoc]; simp [wordT]
                  have hal : (U ++ (s.words.take j).flatMap wordT).length ≤ 300000000 := by
                    have h1 := flatT_len wordT 9 (fun x => by unfold wordT; rw [List.length_cons, hexL_len]; omega) (s.words.take j)
                    rw [List.length_take] at h1
                    rw [List.length_append]
                    omega
                  have hx := hwok _ (List.getElem_mem hjl)
                  generalize U ++ (s.words.take j).flatMap wordT = acj at *
                  generalize s.words[j] = x at *
                  have hr1 := hexL_len x
                  have had1 : ∀ W, (binOp .add 9 (.string { data := #[32] }) (strOf (hexL x))).run Try.prog W = .ok (strOf (32 :: (hexL x))) W := fun W => run_add_str (P := Try.prog) 9 [32] (hexL x) (by simp; omega) W
                  have had2 : ∀ W, (binOp .add 9 (strOf (acj)) (strOf (32 :: (hexL x)))).run Try.prog W = .ok (strOf (acj ++ 32 :: (hexL x))) W := fun W => run_add_str (P := Try.prog) 9 (acj) (32 :: (hexL x)) (by simp; omega) W
                  rw [hsa] at b4
                  clear hsa hcs hword
                  go_wp2_with fail
                  refine (rword_fix x _ hx).mono ?_
                  rintro e w6 ⟨rfl, k6⟩
                  go_wp2
                  go_roundw
                  case rel => exact ⟨j + 1, by omega, by go_num, by rw [hnj.out], hkj.then k6⟩
                  case measure => simp [intOf]; omega
                · obtain rfl : j = s.words.length := by omega
                  rw [List.take_length]
                  clear hword hj hjl
                  rw [← HFU.out]
                  go_wp2
                  go_ret
                  exact ⟨rfl, HK0.out.then (HKc.out.then hkj)⟩
        · skip
          obtain ⟨hz0, hz1⟩ := hn04 rfl
          obtain ⟨m, hm⟩ : ∃ m : Nat, s.n = (m : Int) := ⟨s.n.toNat, by omega⟩
          have hm2 : m < 4294967296 := by omega
          have hml := hexL_len m
          rw [hm] at a2
          have hwt : Hid (wordT s.n.toNat = 32 :: hexL m) := by show _ = _; rw [hm]; rfl
          rw [hwt.out] at HF
          clear hm hz0 hz1
          have had1 : ∀ W, (binOp .add 9 (.string { data := #[32] }) (strOf (hexL m))).run Try.prog W = .ok (strOf (32 :: (hexL m))) W := fun W => run_add_str (P := Try.prog) 9 [32] (hexL m) (by simp; omega) W
          have had2 : ∀ W, (binOp .add 9 (strOf (T0)) (strOf (32 :: (hexL m)))).run Try.prog W = .ok (strOf (T0 ++ 32 :: (hexL m))) W := fun W => run_add_str (P := Try.prog) 9 (T0) (32 :: (hexL m)) (by simp; omega) W
          go_wp2_with fail
          refine (HHh _).out.mono ?_
          rintro e w4 ⟨rfl, rfl⟩
          go_wp2_with fail
          refine (rword_fix m _ hm2).mono ?_
          rintro e w4 ⟨rfl, k4⟩
          replace k3' := k3'.then k4
          clear k4 a0 a1 a2 a3 a4
          obtain ⟨a0, a1, a2, a3, a4⟩ := HG.out _ k3'
          have hTl : (T0 ++ 32 :: hexL m).length ≤ 100 := by (try simp) <;> omega
          have HFT : Hid (lineT s = (T0 ++ 32 :: hexL m) ++ (s.secs.flatMap secT ++ s.words.flatMap wordT)) := by show _ = _; rw [HF.out]; simp
          generalize (T0 ++ 32 :: hexL m) = T at *
          have HKc := Lib.hid (k3')
          have hG2 := Lib.hid (fun w' (k : Keep [] _ w') => HG.out w' (HKc.out.then k))
          have HA4 := HAt.out.keep0 HKc.out
          have hsec : 0 < s.secs.length → ∃ b o, v.sa = some ⟨b, o, none⟩ ∧ ∀ w', Keep [] w4 w' → ∀ k, (hk : k < s.secs.length) → w'.cell? ⟨b, o + k * 3, none⟩ = some (.int .i64 s.secs[k].res) ∧ w'.cell? ⟨b, o + k * 3 + 1, none⟩ = some (.int .i64 s.secs[k].frm) ∧ w'.cell? ⟨b, o + k * 3 + 2, none⟩ = some (.int .i64 s.secs[k].to) := fun h0 => by
            obtain ⟨b, o, e, hb, hc⟩ := HA4.sec h0
            exact ⟨b, o, e, fun w' kk j hj => ⟨(kk.cell (p := ⟨b, o + j * 3, none⟩) hb (by simp)).trans (hc j hj 0 _ rfl), (kk.cell (p := ⟨b, o + j * 3 + 1, none⟩) hb (by simp)).trans (hc j hj 1 _ rfl), (kk.cell (p := ⟨b, o + j * 3 + 2, none⟩) hb (by simp)).trans (hc j hj 2 _ rfl)⟩⟩
          have hword : 0 < s.words.length → ∃ b o, v.wa = some ⟨b, o, none⟩ ∧ ∀ w', Keep [] w4 w' → ∀ k, (hk : k < s.words.length) → w'.cell? ⟨b, o + k, none⟩ = some (.int .u32 (s.words[k] : Int)) := fun h0 => by
            obtain ⟨b, o, e, hb, hc⟩ := HA4.word h0
            exact ⟨b, o, e, fun w' kk j hj => (kk.cell (p := ⟨b, o + j, none⟩) hb (by simp)).trans (hc j hj)⟩
          have hwok := HA4.ok
          clear HA4 HF
          go_wp2
          go_loopw [5, 3] (fun v5 v3 wr => ∃ j : Nat, j ≤ s.secs.length ∧ v5 = .int .i64 (j : Int) ∧ v3 = strOf (T ++ (s.secs.take j).flatMap secT) ∧ Keep [] w4 wr) (fun v5 _ _ => s.secs.length - (intOf v5).toNat)
          case atStart => exact ⟨0, Nat.zero_le _, rfl, by simp, Keep.refl _ _⟩
          case round =>
            obtain ⟨j, hj, rfl, rfl, hkj⟩ := hrel
            obtain ⟨b0, b1, b2, b3, b4⟩ := hG2.out _ hkj
            by_cases hjl : j < s.secs.length
            · obtain ⟨sb, so, hsa, hcs⟩ := hsec (by omega)
              obtain ⟨q1, q2, q3⟩ := hcs wr hkj j hjl
              have hpj0 : (0 : Int) ≤ (j : Int) := by omega
              have hpj1 : (j : Int) < (s.secs.length : Int) := by omega
              have hnj : Hid (T ++ (s.secs.take (j + 1)).flatMap secT = (T ++ (s.secs.take j).flatMap secT) ++ secT s.secs[j]) := by show _ = _; rw [List.take_succ_eq_append_getElem hjl, List.flatMap_append, List.append_assoc]; simp
              have hal : (T ++ (s.secs.take j).flatMap secT).length ≤ 300000000 := by
                have h1 := flatT_len secT 33 secT_len (s.secs.take j)
                rw [List.length_take] at h1
                rw [List.length_append]
                omega
              generalize T ++ (s.secs.take j).flatMap secT = acj at *
              generalize s.secs[j] = x at *
              rw [hsa] at b3
              clear hsa hcs hsec hword
              obtain ⟨V, hV⟩ : ∃ V, wr.alloc (.cells #[.int .i64 x.res, .int .i64 x.frm, .int .i64 x.to] 85) = V := ⟨_, rfl⟩
              have hd : Blk V wr.heap.size 85 #[.int .i64 x.res, .int .i64 x.frm, .int .i64 x.to] := by rw [← hV]; exact Blk.new _ _ _
              have hkV : Keep [] w4 V := by rw [← hV]; exact hkj.alloc _
              have hF : ∀ w', Keep [] V w' → w'.cell? ⟨wr.heap.size, 0, none⟩ = some (.int .i64 x.res) ∧ w'.cell? ⟨wr.heap.size, 1, none⟩ = some (.int .i64 x.frm) ∧ w'.cell? ⟨wr.heap.size, 2, none⟩ = some (.int .i64 x.to) := fun w' kk => ⟨(hd.keep0 kk).cell 0, (hd.keep0 kk).cell 1, (hd.keep0 kk).cell 2⟩
              go_upto_region 14 with fail
              have hr1 := decL_len10 x.res
              have hr2 := decL_len10 x.frm
              have hr3 := decL_len10 x.to
              refine wp_region_flow (Keep [] V) rfl (by kernel_rfl) (Keep.refl _ _).drew ?_
              (refine fl_val (v := ?_) (by rfl) ?_ ?_; rotate_left; (intro w' hS; obtain ⟨f1,f2,f3⟩ := hF w' hS; go_simp; with_reducible rfl); simp only [Act.put, List.setIfInBounds_toArray, List.set_cons_zero, List.set_cons_succ])
              (refine fl_val (v := ?_) (by rfl) ?_ ?_; rotate_left; (intro w' hS; obtain ⟨f1,f2,f3⟩ := hF w' hS; go_simp; with_reducible rfl); simp only [Act.put, List.setIfInBounds_toArray, List.set_cons_zero, List.set_cons_succ])
              (refine fl_val (v := ?_) (by rfl) ?_ ?_; rotate_left; (intro w' hS; obtain ⟨f1,f2,f3⟩ := hF w' hS; go_simp; with_reducible rfl); simp only [Act.put, List.setIfInBounds_toArray, List.set_cons_zero, List.set_cons_succ])
              refine fl_call (f := 42) (v := strOf (decL (clampN x.res))) (by rfl) rfl (by simp only [List.map_toArray, List.map_cons, List.map_nil]; rfl) Try.func42 (by kernel_rfl) (by kernel_rfl) (fun w' hS => ((rtext_fix x.res w').mono (fun e w'' h => ⟨h.1, hS.then h.2⟩))) ?_; simp only [Act.put, List.setIfInBounds_toArray, List.set_cons_zero, List.set_cons_succ]
              (refine fl_val (v := strOf ([32] ++ decL (clampN x.res))) (by rfl) (fun w' _ => exec_add rfl rfl (by simp; omega) w') ?_; simp only [Act.put, List.setIfInBounds_toArray, List.set_cons_zero, List.set_cons_succ])
              (refine fl_val (v := strOf (([32] ++ decL (clampN x.res)) ++ [58])) (by rfl) (fun w' _ => exec_add rfl rfl (by simp; omega) w') ?_; simp only [Act.put, List.setIfInBounds_toArray, List.set_cons_zero, List.set_cons_succ])
              (refine fl_val (v := ?_) (by rfl) ?_ ?_; rotate_left; (intro w' hS; obtain ⟨f1,f2,f3⟩ := hF w' hS; go_simp; with_reducible rfl); simp only [Act.put, List.setIfInBounds_toArray, List.set_cons_zero, List.set_cons_succ])
              (refine fl_val (v := ?_) (by rfl) ?_ ?_; rotate_left; (intro w' hS; obtain ⟨f1,f2,f3⟩ := hF w' hS; go_simp; with_reducible rfl); simp only [Act.put, List.setIfInBounds_toArray, List.set_cons_zero, List.set_cons_succ])
              refine fl_call (f := 42) (v := strOf (decL (clampN x.frm))) (by rfl) rfl (by simp only [List.map_toArray, List.map_cons, List.map_nil]; rfl) Try.func42 (by kernel_rfl) (by kernel_rfl) (fun w' hS => ((rtext_fix x.frm w').mono (fun e w'' h => ⟨h.1, hS.then h.2⟩))) ?_; simp only [Act.put, List.setIfInBounds_toArray, List.set_cons_zero, List.set_cons_succ]
              (refine fl_val (v := strOf ((([32] ++ decL (clampN x.res)) ++ [58]) ++ decL (clampN x.frm))) (by rfl) (fun w' _ => exec_add rfl rfl (by simp; omega) w') ?_; simp only [Act.put, List.setIfInBounds_toArray, List.set_cons_zero, List.set_cons_succ])
              (refine fl_val (v := strOf (((([32] ++ decL (clampN x.res)) ++ [58]) ++ decL (clampN x.frm)) ++ [45])) (by rfl) (fun w' _ => exec_add rfl rfl (by simp; omega) w') ?_; simp only [Act.put, List.setIfInBounds_toArray, List.set_cons_zero, List.set_cons_succ])
              (refine fl_val (v := ?_) (by rfl) ?_ ?_; rotate_left; (intro w' hS; obtain ⟨f1,f2,f3⟩ := hF w' hS; go_simp; with_reducible rfl); simp only [Act.put, List.setIfInBounds_toArray, List.set_cons_zero, List.set_cons_succ])
              (refine fl_val (v := ?_) (by rfl) ?_ ?_; rotate_left; (intro w' hS; obtain ⟨f1,f2,f3⟩ := hF w' hS; go_simp; with_reducible rfl); simp only [Act.put, List.setIfInBounds_toArray, List.set_cons_zero, List.set_cons_succ])
              refine fl_call (f := 42) (v := strOf (decL (clampN x.to))) (by rfl) rfl (by simp only [List.map_toArray, List.map_cons, List.map_nil]; rfl) Try.func42 (by kernel_rfl) (by kernel_rfl) (fun w' hS => ((rtext_fix x.to w').mono (fun e w'' h => ⟨h.1, hS.then h.2⟩))) ?_; simp only [Act.put, List.setIfInBounds_toArray, List.set_cons_zero, List.set_cons_succ]
              (refine fl_val (v := strOf ((((([32] ++ decL (clampN x.res)) ++ [58]) ++ decL (clampN x.frm)) ++ [45]) ++ decL (clampN x.to))) (by rfl) (fun w' _ => exec_add rfl rfl (by simp; omega) w') ?_; simp only [Act.put, List.setIfInBounds_toArray, List.set_cons_zero, List.set_cons_succ])
              (refine fl_val (v := strOf (acj ++ ((((([32] ++ decL (clampN x.res)) ++ [58]) ++ decL (clampN x.frm)) ++ [45]) ++ decL (clampN x.to)))) (by rfl) (fun w' _ => exec_add rfl rfl (by simp; omega) w') ?_; simp only [Act.put, List.setIfInBounds_toArray, List.set_cons_zero, List.set_cons_succ])
              (refine fl_val (v := ?_) (by rfl) ?_ ?_; rotate_left; (intro w' hS; obtain ⟨f1,f2,f3⟩ := hF w' hS; go_simp; with_reducible rfl); simp only [Act.put, List.setIfInBounds_toArray, List.set_cons_zero, List.set_cons_succ])
              refine fl_nil ?_
              intro w5 hS
              go_wp2
              go_roundw
              case rel => exact ⟨j + 1, by omega, by go_num, by rw [hnj.out]; simp [secT], hkV.then hS⟩
              case measure => simp [intOf]; omega
            · obtain rfl : j = s.secs.length := by omega
              rw [List.take_length]
              clear hsec hj hjl
              have hU : (T ++ s.secs.flatMap secT).length ≤ 100000000 := by
                have h1 := flatT_len secT 33 secT_len s.secs
                rw [List.length_append]
                omega
              have HFU : Hid (lineT s = (T ++ s.secs.flatMap secT) ++ s.words.flatMap wordT) := by show _ = _; rw [HFT.out, List.append_assoc]
              generalize T ++ s.secs.flatMap secT = U at *
              clear HFT
              have HKj := Lib.hid hkj
              clear hkj
              go_wp2
              go_loopw [7, 3] (fun v7 v3 wr => ∃ j : Nat, j ≤ s.words.length ∧ v7 = .int .i64 (j : Int) ∧ v3 = strOf (U ++ (s.words.take j).flatMap wordT) ∧ Keep [] w4 wr) (fun v7 _ _ => s.words.length - (intOf v7).toNat)
              case atStart => exact ⟨0, Nat.zero_le _, rfl, by simp, HKj.out⟩
              case round =>
                obtain ⟨j, hj, rfl, rfl, hkj⟩ := hrel
                obtain ⟨b0, b1, b2, b3, b4⟩ := hG2.out _ hkj
                by_cases hjl : j < s.words.length
                · obtain ⟨sb, so, hsa, hcs⟩ := hword (by omega)
                  have q1 := hcs wr hkj j hjl
                  have hpj0 : (0 : Int) ≤ (j : Int) := by omega
                  have hpj1 : (j : Int) < (s.words.length : Int) := by omega
                  have hnj : Hid (U ++ (s.words.take (j + 1)).flatMap wordT = (U ++ (s.words.take j).flatMap wordT) ++ 32 :: hexL s.words[j]) := by show _ = _; rw [List.take_succ_eq_append_getElem hjl, List.flatMap_append, List.append_assoc]; simp [wordT]
                  have hal : (U ++ (s.words.take j).flatMap wordT).length ≤ 300000000 := by
                    have h1 := flatT_len wordT 9 (fun x => by unfold wordT; rw [List.length_cons, hexL_len]; omega) (s.words.take j)
                    rw [List.length_take] at h1
                    rw [List.length_append]
                    omega
                  have hx := hwok _ (List.getElem_mem hjl)
                  generalize U ++ (s.words.take j).flatMap wordT = acj at *
                  generalize s.words[j] = x at *
                  have hr1 := hexL_len x
                  have had1 : ∀ W, (binOp .add 9 (.string { data := #[32] }) (strOf (hexL x))).run Try.prog W = .ok (strOf (32 :: (hexL x))) W := fun W => run_add_str (P := Try.prog) 9 [32] (hexL x) (by simp; omega) W
                  have had2 : ∀ W, (binOp .add 9 (strOf (acj)) (strOf (32 :: (hexL x)))).run Try.prog W = .ok (strOf (acj ++ 32 :: (hexL x))) W := fun W => run_add_str (P := Try.prog) 9 (acj) (32 :: (hexL x)) (by simp; omega) W
                  rw [hsa] at b4
                  clear hsa hcs hword
                  go_wp2_with fail
                  refine (rword_fix x _ hx).mono ?_
                  rintro e w6 ⟨rfl, k6⟩
                  go_wp2
                  go_roundw
                  case rel => exact ⟨j + 1, by omega, by go_num, by rw [hnj.out], hkj.then k6⟩
                  case measure => simp [intOf]; omega
                · obtain rfl : j = s.words.length := by omega
                  rw [List.take_length]
                  clear hword hj hjl
                  rw [← HFU.out]
                  go_wp2
                  go_ret
                  exact ⟨rfl, HK0.out.then (HKc.out.then hkj)⟩
      · obtain rfl := hnh rfl
        have had1 : ∀ W, (binOp .add 9 (.string { data := #[32] }) (strOf (decL (clampN s.n)))).run Try.prog W = .ok (strOf (32 :: (decL (clampN s.n)))) W := fun W => run_add_str (P := Try.prog) 9 [32] (decL (clampN s.n)) (by simp; omega) W
        have had2 : ∀ W, (binOp .add 9 (strOf (T0)) (strOf (32 :: (decL (clampN s.n))))).run Try.prog W = .ok (strOf (T0 ++ 32 :: (decL (clampN s.n)))) W := fun W => run_add_str (P := Try.prog) 9 (T0) (32 :: (decL (clampN s.n))) (by simp; omega) W
        go_wp2_with fail
        refine (HHn _).out.mono ?_
        rintro e w4 ⟨rfl, rfl⟩
        go_wp2_with fail
        refine (rtext_fix s.n _).mono ?_
        rintro e w4 ⟨rfl, k4⟩
        replace k3' := k3'.then k4
        clear k4 a0 a1 a2 a3 a4
        obtain ⟨a0, a1, a2, a3, a4⟩ := HG.out _ k3'
        go_wp2_with fail
        refine (HHh _).out.mono ?_
        rintro e w5 ⟨rfl, rfl⟩
        have hTl : (T0 ++ 32 :: decL (clampN s.n)).length ≤ 100 := by (try simp) <;> omega
        have HFT : Hid (lineT s = (T0 ++ 32 :: decL (clampN s.n)) ++ (s.secs.flatMap secT ++ s.words.flatMap wordT)) := by show _ = _; rw [HF.out]; simp
        generalize (T0 ++ 32 :: decL (clampN s.n)) = T at *
        have HKc := Lib.hid (k3')
        have hG2 := Lib.hid (fun w' (k : Keep [] _ w') => HG.out w' (HKc.out.then k))
        have HA4 := HAt.out.keep0 HKc.out
        have hsec : 0 < s.secs.length → ∃ b o, v.sa = some ⟨b, o, none⟩ ∧ ∀ w', Keep [] w4 w' → ∀ k, (hk : k < s.secs.length) → w'.cell? ⟨b, o + k * 3, none⟩ = some (.int .i64 s.secs[k].res) ∧ w'.cell? ⟨b, o + k * 3 + 1, none⟩ = some (.int .i64 s.secs[k].frm) ∧ w'.cell? ⟨b, o + k * 3 + 2, none⟩ = some (.int .i64 s.secs[k].to) := fun h0 => by
          obtain ⟨b, o, e, hb, hc⟩ := HA4.sec h0
          exact ⟨b, o, e, fun w' kk j hj => ⟨(kk.cell (p := ⟨b, o + j * 3, none⟩) hb (by simp)).trans (hc j hj 0 _ rfl), (kk.cell (p := ⟨b, o + j * 3 + 1, none⟩) hb (by simp)).trans (hc j hj 1 _ rfl), (kk.cell (p := ⟨b, o + j * 3 + 2, none⟩) hb (by simp)).trans (hc j hj 2 _ rfl)⟩⟩
        have hword : 0 < s.words.length → ∃ b o, v.wa = some ⟨b, o, none⟩ ∧ ∀ w', Keep [] w4 w' → ∀ k, (hk : k < s.words.length) → w'.cell? ⟨b, o + k, none⟩ = some (.int .u32 (s.words[k] : Int)) := fun h0 => by
          obtain ⟨b, o, e, hb, hc⟩ := HA4.word h0
          exact ⟨b, o, e, fun w' kk j hj => (kk.cell (p := ⟨b, o + j, none⟩) hb (by simp)).trans (hc j hj)⟩
        have hwok := HA4.ok
        clear HA4 HF
        go_wp2
        go_loopw [5, 3] (fun v5 v3 wr => ∃ j : Nat, j ≤ s.secs.length ∧ v5 = .int .i64 (j : Int) ∧ v3 = strOf (T ++ (s.secs.take j).flatMap secT) ∧ Keep [] w4 wr) (fun v5 _ _ => s.secs.length - (intOf v5).toNat)
        case atStart => exact ⟨0, Nat.zero_le _, rfl, by simp, Keep.refl _ _⟩
        case round =>
          obtain ⟨j, hj, rfl, rfl, hkj⟩ := hrel
          obtain ⟨b0, b1, b2, b3, b4⟩ := hG2.out _ hkj
          by_cases hjl : j < s.secs.length
          · obtain ⟨sb, so, hsa, hcs⟩ := hsec (by omega)
            obtain ⟨q1, q2, q3⟩ := hcs wr hkj j hjl
            have hpj0 : (0 : Int) ≤ (j : Int) := by omega
            have hpj1 : (j : Int) < (s.secs.length : Int) := by omega
            have hnj : Hid (T ++ (s.secs.take (j + 1)).flatMap secT = (T ++ (s.secs.take j).flatMap secT) ++ secT s.secs[j]) := by show _ = _; rw [List.take_succ_eq_append_getElem hjl, List.flatMap_append, List.append_assoc]; simp
            have hal : (T ++ (s.secs.take j).flatMap secT).length ≤ 300000000 := by
              have h1 := flatT_len secT 33 secT_len (s.secs.take j)
              rw [List.length_take] at h1
              rw [List.length_append]
              omega
            generalize T ++ (s.secs.take j).flatMap secT = acj at *
            generalize s.secs[j] = x at *
            rw [hsa] at b3
            clear hsa hcs hsec hword
            obtain ⟨V, hV⟩ : ∃ V, wr.alloc (.cells #[.int .i64 x.res, .int .i64 x.frm, .int .i64 x.to] 85) = V := ⟨_, rfl⟩
            have hd : Blk V wr.heap.size 85 #[.int .i64 x.res, .int .i64 x.frm, .int .i64 x.to] := by rw [← hV]; exact Blk.new _ _ _
            have hkV : Keep [] w4 V := by rw [← hV]; exact hkj.alloc _
            have hF : ∀ w', Keep [] V w' → w'.cell? ⟨wr.heap.size, 0, none⟩ = some (.int .i64 x.res) ∧ w'.cell? ⟨wr.heap.size, 1, none⟩ = some (.int .i64 x.frm) ∧ w'.cell? ⟨wr.heap.size, 2, none⟩ = some (.int .i64 x.to) := fun w' kk => ⟨(hd.keep0 kk).cell 0, (hd.keep0 kk).cell 1, (hd.keep0 kk).cell 2⟩
            go_upto_region 14 with fail
            have hr1 := decL_len10 x.res
            have hr2 := decL_len10 x.frm
            have hr3 := decL_len10 x.to
            refine wp_region_flow (Keep [] V) rfl (by kernel_rfl) (Keep.refl _ _).drew ?_
            (refine fl_val (v := ?_) (by rfl) ?_ ?_; rotate_left; (intro w' hS; obtain ⟨f1,f2,f3⟩ := hF w' hS; go_simp; with_reducible rfl); simp only [Act.put, List.setIfInBounds_toArray, List.set_cons_zero, List.set_cons_succ])
            (refine fl_val (v := ?_) (by rfl) ?_ ?_; rotate_left; (intro w' hS; obtain ⟨f1,f2,f3⟩ := hF w' hS; go_simp; with_reducible rfl); simp only [Act.put, List.setIfInBounds_toArray, List.set_cons_zero, List.set_cons_succ])
            (refine fl_val (v := ?_) (by rfl) ?_ ?_; rotate_left; (intro w' hS; obtain ⟨f1,f2,f3⟩ := hF w' hS; go_simp; with_reducible rfl); simp only [Act.put, List.setIfInBounds_toArray, List.set_cons_zero, List.set_cons_succ])
            refine fl_call (f := 42) (v := strOf (decL (clampN x.res))) (by rfl) rfl (by simp only [List.map_toArray, List.map_cons, List.map_nil]; rfl) Try.func42 (by kernel_rfl) (by kernel_rfl) (fun w' hS => ((rtext_fix x.res w').mono (fun e w'' h => ⟨h.1, hS.then h.2⟩))) ?_; simp only [Act.put, List.setIfInBounds_toArray, List.set_cons_zero, List.set_cons_succ]
            (refine fl_val (v := strOf ([32] ++ decL (clampN x.res))) (by rfl) (fun w' _ => exec_add rfl rfl (by simp; omega) w') ?_; simp only [Act.put, List.setIfInBounds_toArray, List.set_cons_zero, List.set_cons_succ])
            (refine fl_val (v := strOf (([32] ++ decL (clampN x.res)) ++ [58])) (by rfl) (fun w' _ => exec_add rfl rfl (by simp; omega) w') ?_; simp only [Act.put, List.setIfInBounds_toArray, List.set_cons_zero, List.set_cons_succ])
            (refine fl_val (v := ?_) (by rfl) ?_ ?_; rotate_left; (intro w' hS; obtain ⟨f1,f2,f3⟩ := hF w' hS; go_simp; with_reducible rfl); simp only [Act.put, List.setIfInBounds_toArray, List.set_cons_zero, List.set_cons_succ])
            (refine fl_val (v := ?_) (by rfl) ?_ ?_; rotate_left; (intro w' hS; obtain ⟨f1,f2,f3⟩ := hF w' hS; go_simp; with_reducible rfl); simp only [Act.put, List.setIfInBounds_toArray, List.set_cons_zero, List.set_cons_succ])
            refine fl_call (f := 42) (v := strOf (decL (clampN x.frm))) (by rfl) rfl (by simp only [List.map_toArray, List.map_cons, List.map_nil]; rfl) Try.func42 (by kernel_rfl) (by kernel_rfl) (fun w' hS => ((rtext_fix x.frm w').mono (fun e w'' h => ⟨h.1, hS.then h.2⟩))) ?_; simp only [Act.put, List.setIfInBounds_toArray, List.set_cons_zero, List.set_cons_succ]
            (refine fl_val (v := strOf ((([32] ++ decL (clampN x.res)) ++ [58]) ++ decL (clampN x.frm))) (by rfl) (fun w' _ => exec_add rfl rfl (by simp; omega) w') ?_; simp only [Act.put, List.setIfInBounds_toArray, List.set_cons_zero, List.set_cons_succ])
            (refine fl_val (v := strOf (((([32] ++ decL (clampN x.res)) ++ [58]) ++ decL (clampN x.frm)) ++ [45])) (by rfl) (fun w' _ => exec_add rfl rfl (by simp; omega) w') ?_; simp only [Act.put, List.setIfInBounds_toArray, List.set_cons_zero, List.set_cons_succ])
            (refine fl_val (v := ?_) (by rfl) ?_ ?_; rotate_left; (intro w' hS; obtain ⟨f1,f2,f3⟩ := hF w' hS; go_simp; with_reducible rfl); simp only [Act.put, List.setIfInBounds_toArray, List.set_cons_zero, List.set_cons_succ])
            (refine fl_val (v := ?_) (by rfl) ?_ ?_; rotate_left; (intro w' hS; obtain ⟨f1,f2,f3⟩ := hF w' hS; go_simp; with_reducible rfl); simp only [Act.put, List.setIfInBounds_toArray, List.set_cons_zero, List.set_cons_succ])
            refine fl_call (f := 42) (v := strOf (decL (clampN x.to))) (by rfl) rfl (by simp only [List.map_toArray, List.map_cons, List.map_nil]; rfl) Try.func42 (by kernel_rfl) (by kernel_rfl) (fun w' hS => ((rtext_fix x.to w').mono (fun e w'' h => ⟨h.1, hS.then h.2⟩))) ?_; simp only [Act.put, List.setIfInBounds_toArray, List.set_cons_zero, List.set_cons_succ]
            (refine fl_val (v := strOf ((((([32] ++ decL (clampN x.res)) ++ [58]) ++ decL (clampN x.frm)) ++ [45]) ++ decL (clampN x.to))) (by rfl) (fun w' _ => exec_add rfl rfl (by simp; omega) w') ?_; simp only [Act.put, List.setIfInBounds_toArray, List.set_cons_zero, List.set_cons_succ])
            (refine fl_val (v := strOf (acj ++ ((((([32] ++ decL (clampN x.res)) ++ [58]) ++ decL (clampN x.frm)) ++ [45]) ++ decL (clampN x.to)))) (by rfl) (fun w' _ => exec_add rfl rfl (by simp; omega) w') ?_; simp only [Act.put, List.setIfInBounds_toArray, List.set_cons_zero, List.set_cons_succ])
            (refine fl_val (v := ?_) (by rfl) ?_ ?_; rotate_left; (intro w' hS; obtain ⟨f1,f2,f3⟩ := hF w' hS; go_simp; with_reducible rfl); simp only [Act.put, List.setIfInBounds_toArray, List.set_cons_zero, List.set_cons_succ])
            refine fl_nil ?_
            intro w5 hS
            go_wp2
            go_roundw
            case rel => exact ⟨j + 1, by omega, by go_num, by rw [hnj.out]; simp [secT], hkV.then hS⟩
            case measure => simp [intOf]; omega
          · obtain rfl : j = s.secs.length := by omega
            rw [List.take_length]
            clear hsec hj hjl
            have hU : (T ++ s.secs.flatMap secT).length ≤ 100000000 := by
              have h1 := flatT_len secT 33 secT_len s.secs
              rw [List.length_append]
              omega
            have HFU : Hid (lineT s = (T ++ s.secs.flatMap secT) ++ s.words.flatMap wordT) := by show _ = _; rw [HFT.out, List.append_assoc]
            generalize T ++ s.secs.flatMap secT = U at *
            clear HFT
            have HKj := Lib.hid hkj
            clear hkj
            go_wp2
            go_loopw [7, 3] (fun v7 v3 wr => ∃ j : Nat, j ≤ s.words.length ∧ v7 = .int .i64 (j : Int) ∧ v3 = strOf (U ++ (s.words.take j).flatMap wordT) ∧ Keep [] w4 wr) (fun v7 _ _ => s.words.length - (intOf v7).toNat)
            case atStart => exact ⟨0, Nat.zero_le _, rfl, by simp, HKj.out⟩
            case round =>
              obtain ⟨j, hj, rfl, rfl, hkj⟩ := hrel
              obtain ⟨b0, b1, b2, b3, b4⟩ := hG2.out _ hkj
              by_cases hjl : j < s.words.length
              · obtain ⟨sb, so, hsa, hcs⟩ := hword (by omega)
                have q1 := hcs wr hkj j hjl
                have hpj0 : (0 : Int) ≤ (j : Int) := by omega
                have hpj1 : (j : Int) < (s.words.length : Int) := by omega
                have hnj : Hid (U ++ (s.words.take (j + 1)).flatMap wordT = (U ++ (s.words.take j).flatMap wordT) ++ 32 :: hexL s.words[j]) := by show _ = _; rw [List.take_succ_eq_append_getElem hjl, List.flatMap_append, List.append_assoc]; simp [wordT]
                have hal : (U ++ (s.words.take j).flatMap wordT).length ≤ 300000000 := by
                  have h1 := flatT_len wordT 9 (fun x => by unfold wordT; rw [List.length_cons, hexL_len]; omega) (s.words.take j)
                  rw [List.length_take] at h1
                  rw [List.length_append]
                  omega
                have hx := hwok _ (List.getElem_mem hjl)
                generalize U ++ (s.words.take j).flatMap wordT = acj at *
                generalize s.words[j] = x at *
                have hr1 := hexL_len x
                have had1 : ∀ W, (binOp .add 9 (.string { data := #[32] }) (strOf (hexL x))).run Try.prog W = .ok (strOf (32 :: (hexL x))) W := fun W => run_add_str (P := Try.prog) 9 [32] (hexL x) (by simp; omega) W
                have had2 : ∀ W, (binOp .add 9 (strOf (acj)) (strOf (32 :: (hexL x)))).run Try.prog W = .ok (strOf (acj ++ 32 :: (hexL x))) W := fun W => run_add_str (P := Try.prog) 9 (acj) (32 :: (hexL x)) (by simp; omega) W
                rw [hsa] at b4
                clear hsa hcs hword
                go_wp2_with fail
                refine (rword_fix x _ hx).mono ?_
                rintro e w6 ⟨rfl, k6⟩
                go_wp2
                go_roundw
                case rel => exact ⟨j + 1, by omega, by go_num, by rw [hnj.out], hkj.then k6⟩
                case measure => simp [intOf]; omega
              · obtain rfl : j = s.words.length := by omega
                rw [List.take_length]
                clear hword hj hjl
                rw [← HFU.out]
                go_wp2
                go_ret
                exact ⟨rfl, HK0.out.then (HKc.out.then hkj)⟩
    · skip
      have had1 : ∀ W, (binOp .add 9 (.string { data := #[32] }) (strOf (decL (clampN s.a)))).run Try.prog W = .ok (strOf (32 :: (decL (clampN s.a)))) W := fun W => run_add_str (P := Try.prog) 9 [32] (decL (clampN s.a)) (by simp; omega) W
      have had2 : ∀ W, (binOp .add 9 (strOf (T0)) (strOf (32 :: (decL (clampN s.a))))).run Try.prog W = .ok (strOf (T0 ++ 32 :: (decL (clampN s.a)))) W := fun W => run_add_str (P := Try.prog) 9 (T0) (32 :: (decL (clampN s.a))) (by simp; omega) W
      have hTA : (T0 ++ 32 :: (decL (clampN s.a))).length ≤ 50 := by simp; omega
      have HFA : Hid (lineT s = (T0 ++ 32 :: (decL (clampN s.a))) ++ ((if hn = true then 32 :: decL (clampN s.n) else []) ++ ((if hh = true then wordT s.n.toNat else []) ++ (s.secs.flatMap secT ++ s.words.flatMap wordT)))) := by show _ = _; rw [HF.out]; simp
      generalize (T0 ++ 32 :: (decL (clampN s.a))) = TA at *
      replace HF := HFA
      clear HFA
      go_wp2_with fail
      refine (HHa _).out.mono ?_
      rintro e w4 ⟨rfl, rfl⟩
      go_wp2_with fail
      refine (rtext_fix s.a _).mono ?_
      rintro e w3a ⟨rfl, k4⟩
      replace k3' := k3'.then k4
      clear k4 a0 a1 a2 a3 a4
      obtain ⟨a0, a1, a2, a3, a4⟩ := HG.out _ k3'
      cases hn
      · skip
        go_wp2_with fail
        refine (HHn _).out.mono ?_
        rintro e w4 ⟨rfl, rfl⟩
        cases hh
        · skip
          go_wp2_with fail
          refine (HHh _).out.mono ?_
          rintro e w4 ⟨rfl, rfl⟩
          obtain ⟨w4, hw4⟩ : ∃ w4, w4 = w3a := ⟨_, rfl⟩
          rw [← hw4] at k3' a0 a1 a2 a3 a4 ⊢
          clear hw4
          have hTl : (TA).length ≤ 100 := by (try simp) <;> omega
          have HFT : Hid (lineT s = (TA) ++ (s.secs.flatMap secT ++ s.words.flatMap wordT)) := by show _ = _; rw [HF.out]; simp
          generalize (TA) = T at *
          have HKc := Lib.hid (k3')
          have hG2 := Lib.hid (fun w' (k : Keep [] _ w') => HG.out w' (HKc.out.then k))
          have HA4 := HAt.out.keep0 HKc.out
          have hsec : 0 < s.secs.length → ∃ b o, v.sa = some ⟨b, o, none⟩ ∧ ∀ w', Keep [] w4 w' → ∀ k, (hk : k < s.secs.length) → w'.cell? ⟨b, o + k * 3, none⟩ = some (.int .i64 s.secs[k].res) ∧ w'.cell? ⟨b, o + k * 3 + 1, none⟩ = some (.int .i64 s.secs[k].frm) ∧ w'.cell? ⟨b, o + k * 3 + 2, none⟩ = some (.int .i64 s.secs[k].to) := fun h0 => by
            obtain ⟨b, o, e, hb, hc⟩ := HA4.sec h0
            exact ⟨b, o, e, fun w' kk j hj => ⟨(kk.cell (p := ⟨b, o + j * 3, none⟩) hb (by simp)).trans (hc j hj 0 _ rfl), (kk.cell (p := ⟨b, o + j * 3 + 1, none⟩) hb (by simp)).trans (hc j hj 1 _ rfl), (kk.cell (p := ⟨b, o + j * 3 + 2, none⟩) hb (by simp)).trans (hc j hj 2 _ rfl)⟩⟩
          have hword : 0 < s.words.length → ∃ b o, v.wa = some ⟨b, o, none⟩ ∧ ∀ w', Keep [] w4 w' → ∀ k, (hk : k < s.words.length) → w'.cell? ⟨b, o + k, none⟩ = some (.int .u32 (s.words[k] : Int)) := fun h0 => by
            obtain ⟨b, o, e, hb, hc⟩ := HA4.word h0
            exact ⟨b, o, e, fun w' kk j hj => (kk.cell (p := ⟨b, o + j, none⟩) hb (by simp)).trans (hc j hj)⟩
          have hwok := HA4.ok
          clear HA4 HF
          go_wp2
          go_loopw [5, 3] (fun v5 v3 wr => ∃ j : Nat, j ≤ s.secs.length ∧ v5 = .int .i64 (j : Int) ∧ v3 = strOf (T ++ (s.secs.take j).flatMap secT) ∧ Keep [] w4 wr) (fun v5 _ _ => s.secs.length - (intOf v5).toNat)
          case atStart => exact ⟨0, Nat.zero_le _, rfl, by simp, Keep.refl _ _⟩
          case round =>
            obtain ⟨j, hj, rfl, rfl, hkj⟩ := hrel
            obtain ⟨b0, b1, b2, b3, b4⟩ := hG2.out _ hkj
            by_cases hjl : j < s.secs.length
            · obtain ⟨sb, so, hsa, hcs⟩ := hsec (by omega)
              obtain ⟨q1, q2, q3⟩ := hcs wr hkj j hjl
              have hpj0 : (0 : Int) ≤ (j : Int) := by omega
              have hpj1 : (j : Int) < (s.secs.length : Int) := by omega
              have hnj : Hid (T ++ (s.secs.take (j + 1)).flatMap secT = (T ++ (s.secs.take j).flatMap secT) ++ secT s.secs[j]) := by show _ = _; rw [List.take_succ_eq_append_getElem hjl, List.flatMap_append, List.append_assoc]; simp
              have hal : (T ++ (s.secs.take j).flatMap secT).length ≤ 300000000 := by
                have h1 := flatT_len secT 33 secT_len (s.secs.take j)
                rw [List.length_take] at h1
                rw [List.length_append]
                omega
              generalize T ++ (s.secs.take j).flatMap secT = acj at *
              generalize s.secs[j] = x at *
              rw [hsa] at b3
              clear hsa hcs hsec hword
              obtain ⟨V, hV⟩ : ∃ V, wr.alloc (.cells #[.int .i64 x.res, .int .i64 x.frm, .int .i64 x.to] 85) = V := ⟨_, rfl⟩
              have hd : Blk V wr.heap.size 85 #[.int .i64 x.res, .int .i64 x.frm, .int .i64 x.to] := by rw [← hV]; exact Blk.new _ _ _
              have hkV : Keep [] w4 V := by rw [← hV]; exact hkj.alloc _
              have hF : ∀ w', Keep [] V w' → w'.cell? ⟨wr.heap.size, 0, none⟩ = some (.int .i64 x.res) ∧ w'.cell? ⟨wr.heap.size, 1, none⟩ = some (.int .i64 x.frm) ∧ w'.cell? ⟨wr.heap.size, 2, none⟩ = some (.int .i64 x.to) := fun w' kk => ⟨(hd.keep0 kk).cell 0, (hd.keep0 kk).cell 1, (hd.keep0 kk).cell 2⟩
              go_upto_region 14 with fail
              have hr1 := decL_len10 x.res
              have hr2 := decL_len10 x.frm
              have hr3 := decL_len10 x.to
              refine wp_region_flow (Keep [] V) rfl (by kernel_rfl) (Keep.refl _ _).drew ?_
              (refine fl_val (v := ?_) (by rfl) ?_ ?_; rotate_left; (intro w' hS; obtain ⟨f1,f2,f3⟩ := hF w' hS; go_simp; with_reducible rfl); simp only [Act.put, List.setIfInBounds_toArray, List.set_cons_zero, List.set_cons_succ])
              (refine fl_val (v := ?_) (by rfl) ?_ ?_; rotate_left; (intro w' hS; obtain ⟨f1,f2,f3⟩ := hF w' hS; go_simp; with_reducible rfl); simp only [Act.put, List.setIfInBounds_toArray, List.set_cons_zero, List.set_cons_succ])
              (refine fl_val (v := ?_) (by rfl) ?_ ?_; rotate_left; (intro w' hS; obtain ⟨f1,f2,f3⟩ := hF w' hS; go_simp; with_reducible rfl); simp only [Act.put, List.setIfInBounds_toArray, List.set_cons_zero, List.set_cons_succ])
              refine fl_call (f := 42) (v := strOf (decL (clampN x.res))) (by rfl) rfl (by simp only [List.map_toArray, List.map_cons, List.map_nil]; rfl) Try.func42 (by kernel_rfl) (by kernel_rfl) (fun w' hS => ((rtext_fix x.res w').mono (fun e w'' h => ⟨h.1, hS.then h.2⟩))) ?_; simp only [Act.put, List.setIfInBounds_toArray, List.set_cons_zero, List.set_cons_succ]
              (refine fl_val (v := strOf ([32] ++ decL (clampN x.res))) (by rfl) (fun w' _ => exec_add rfl rfl (by simp; omega) w') ?_; simp only [Act.put, List.setIfInBounds_toArray, List.set_cons_zero, List.set_cons_succ])
              (refine fl_val (v := strOf (([32] ++ decL (clampN x.res)) ++ [58])) (by rfl) (fun w' _ => exec_add rfl rfl (by simp; omega) w') ?_; simp only [Act.put, List.setIfInBounds_toArray, List.set_cons_zero, List.set_cons_succ])
              (refine fl_val (v := ?_) (by rfl) ?_ ?_; rotate_left; (intro w' hS; obtain ⟨f1,f2,f3⟩ := hF w' hS; go_simp; with_reducible rfl); simp only [Act.put, List.setIfInBounds_toArray, List.set_cons_zero, List.set_cons_succ])
              (refine fl_val (v := ?_) (by rfl) ?_ ?_; rotate_left; (intro w' hS; obtain ⟨f1,f2,f3⟩ := hF w' hS; go_simp; with_reducible rfl); simp only [Act.put, List.setIfInBounds_toArray, List.set_cons_zero, List.set_cons_succ])
              refine fl_call (f := 42) (v := strOf (decL (clampN x.frm))) (by rfl) rfl (by simp only [List.map_toArray, List.map_cons, List.map_nil]; rfl) Try.func42 (by kernel_rfl) (by kernel_rfl) (fun w' hS => ((rtext_fix x.frm w').mono (fun e w'' h => ⟨h.1, hS.then h.2⟩))) ?_; simp only [Act.put, List.setIfInBounds_toArray, List.set_cons_zero, List.set_cons_succ]
              (refine fl_val (v := strOf ((([32] ++ decL (clampN x.res)) ++ [58]) ++ decL (clampN x.frm))) (by rfl) (fun w' _ => exec_add rfl rfl (by simp; omega) w') ?_; simp only [Act.put, List.setIfInBounds_toArray, List.set_cons_zero, List.set_cons_succ])
              (refine fl_val (v := strOf (((([32] ++ decL (clampN x.res)) ++ [58]) ++ decL (clampN x.frm)) ++ [45])) (by rfl) (fun w' _ => exec_add rfl rfl (by simp; omega) w') ?_; simp only [Act.put, List.setIfInBounds_toArray, List.set_cons_zero, List.set_cons_succ])
              (refine fl_val (v := ?_) (by rfl) ?_ ?_; rotate_left; (intro w' hS; obtain ⟨f1,f2,f3⟩ := hF w' hS; go_simp; with_reducible rfl); simp only [Act.put, List.setIfInBounds_toArray, List.set_cons_zero, List.set_cons_succ])
              (refine fl_val (v := ?_) (by rfl) ?_ ?_; rotate_left; (intro w' hS; obtain ⟨f1,f2,f3⟩ := hF w' hS; go_simp; with_reducible rfl); simp only [Act.put, List.setIfInBounds_toArray, List.set_cons_zero, List.set_cons_succ])
              refine fl_call (f := 42) (v := strOf (decL (clampN x.to))) (by rfl) rfl (by simp only [List.map_toArray, List.map_cons, List.map_nil]; rfl) Try.func42 (by kernel_rfl) (by kernel_rfl) (fun w' hS => ((rtext_fix x.to w').mono (fun e w'' h => ⟨h.1, hS.then h.2⟩))) ?_; simp only [Act.put, List.setIfInBounds_toArray, List.set_cons_zero, List.set_cons_succ]
              (refine fl_val (v := strOf ((((([32] ++ decL (clampN x.res)) ++ [58]) ++ decL (clampN x.frm)) ++ [45]) ++ decL (clampN x.to))) (by rfl) (fun w' _ => exec_add rfl rfl (by simp; omega) w') ?_; simp only [Act.put, List.setIfInBounds_toArray, List.set_cons_zero, List.set_cons_succ])
              (refine fl_val (v := strOf (acj ++ ((((([32] ++ decL (clampN x.res)) ++ [58]) ++ decL (clampN x.frm)) ++ [45]) ++ decL (clampN x.to)))) (by rfl) (fun w' _ => exec_add rfl rfl (by simp; omega) w') ?_; simp only [Act.put, List.setIfInBounds_toArray, List.set_cons_zero, List.set_cons_succ])
              (refine fl_val (v := ?_) (by rfl) ?_ ?_; rotate_left; (intro w' hS; obtain ⟨f1,f2,f3⟩ := hF w' hS; go_simp; with_reducible rfl); simp only [Act.put, List.setIfInBounds_toArray, List.set_cons_zero, List.set_cons_succ])
              refine fl_nil ?_
              intro w5 hS
              go_wp2
              go_roundw
              case rel => exact ⟨j + 1, by omega, by go_num, by rw [hnj.out]; simp [secT], hkV.then hS⟩
              case measure => simp [intOf]; omega
            · obtain rfl : j = s.secs.length := by omega
              rw [List.take_length]
              clear hsec hj hjl
              have hU : (T ++ s.secs.flatMap secT).length ≤ 100000000 := by
                have h1 := flatT_len secT 33 secT_len s.secs
                rw [List.length_append]
                omega
              have HFU : Hid (lineT s = (T ++ s.secs.flatMap secT) ++ s.words.flatMap wordT) := by show _ = _; rw [HFT.out, List.append_assoc]
              generalize T ++ s.secs.flatMap secT = U at *
              clear HFT
              have HKj := Lib.hid hkj
              clear hkj
              go_wp2
              go_loopw [7, 3] (fun v7 v3 wr => ∃ j : Nat, j ≤ s.words.length ∧ v7 = .int .i64 (j : Int) ∧ v3 = strOf (U ++ (s.words.take j).flatMap wordT) ∧ Keep [] w4 wr) (fun v7 _ _ => s.words.length - (intOf v7).toNat)
              case atStart => exact ⟨0, Nat.zero_le _, rfl, by simp, HKj.out⟩
              case round =>
                obtain ⟨j, hj, rfl, rfl, hkj⟩ := hrel
                obtain ⟨b0, b1, b2, b3, b4⟩ := hG2.out _ hkj
                by_cases hjl : j < s.words.length
                · obtain ⟨sb, so, hsa, hcs⟩ := hword (by omega)
                  have q1 := hcs wr hkj j hjl
                  have hpj0 : (0 : Int) ≤ (j : Int) := by omega
                  have hpj1 : (j : Int) < (s.words.length : Int) := by omega
                  have hnj : Hid (U ++ (s.words.take (j + 1)).flatMap wordT = (U ++ (s.words.take j).flatMap wordT) ++ 32 :: hexL s.words[j]) := by show _ = _; rw [List.take_succ_eq_append_getElem hjl, List.flatMap_append, List.append_assoc]; simp [wordT]
                  have hal : (U ++ (s.words.take j).flatMap wordT).length ≤ 300000000 := by
                    have h1 := flatT_len wordT 9 (fun x => by unfold wordT; rw [List.length_cons, hexL_len]; omega) (s.words.take j)
                    rw [List.length_take] at h1
                    rw [List.length_append]
                    omega
                  have hx := hwok _ (List.getElem_mem hjl)
                  generalize U ++ (s.words.take j).flatMap wordT = acj at *
                  generalize s.words[j] = x at *
                  have hr1 := hexL_len x
                  have had1 : ∀ W, (binOp .add 9 (.string { data := #[32] }) (strOf (hexL x))).run Try.prog W = .ok (strOf (32 :: (hexL x))) W := fun W => run_add_str (P := Try.prog) 9 [32] (hexL x) (by simp; omega) W
                  have had2 : ∀ W, (binOp .add 9 (strOf (acj)) (strOf (32 :: (hexL x)))).run Try.prog W = .ok (strOf (acj ++ 32 :: (hexL x))) W := fun W => run_add_str (P := Try.prog) 9 (acj) (32 :: (hexL x)) (by simp; omega) W
                  rw [hsa] at b4
                  clear hsa hcs hword
                  go_wp2_with fail
                  refine (rword_fix x _ hx).mono ?_
                  rintro e w6 ⟨rfl, k6⟩
                  go_wp2
                  go_roundw
                  case rel => exact ⟨j + 1, by omega, by go_num, by rw [hnj.out], hkj.then k6⟩
                  case measure => simp [intOf]; omega
                · obtain rfl : j = s.words.length := by omega
                  rw [List.take_length]
                  clear hword hj hjl
                  rw [← HFU.out]
                  go_wp2
                  go_ret
                  exact ⟨rfl, HK0.out.then (HKc.out.then hkj)⟩
        · skip
          obtain ⟨hz0, hz1⟩ := hn04 rfl
          obtain ⟨m, hm⟩ : ∃ m : Nat, s.n = (m : Int) := ⟨s.n.toNat, by omega⟩
          have hm2 : m < 4294967296 := by omega
          have hml := hexL_len m
          rw [hm] at a2
          have hwt : Hid (wordT s.n.toNat = 32 :: hexL m) := by show _ = _; rw [hm]; rfl
          rw [hwt.out] at HF
          clear hm hz0 hz1
          have had1 : ∀ W, (binOp .add 9 (.string { data := #[32] }) (strOf (hexL m))).run Try.prog W = .ok (strOf (32 :: (hexL m))) W := fun W => run_add_str (P := Try.prog) 9 [32] (hexL m) (by simp; omega) W
          have had2 : ∀ W, (binOp .add 9 (strOf (TA)) (strOf (32 :: (hexL m)))).run Try.prog W = .ok (strOf (TA ++ 32 :: (hexL m))) W := fun W => run_add_str (P := Try.prog) 9 (TA) (32 :: (hexL m)) (by simp; omega) W
          go_wp2_with fail
          refine (HHh _).out.mono ?_
          rintro e w4 ⟨rfl, rfl⟩
          go_wp2_with fail
          refine (rword_fix m _ hm2).mono ?_
          rintro e w4 ⟨rfl, k4⟩
          replace k3' := k3'.then k4
          clear k4 a0 a1 a2 a3 a4
          obtain ⟨a0, a1, a2, a3, a4⟩ := HG.out _ k3'
          have hTl : (TA ++ 32 :: hexL m).length ≤ 100 := by (try simp) <;> omega
          have HFT : Hid (lineT s = (TA ++ 32 :: hexL m) ++ (s.secs.flatMap secT ++ s.words.flatMap wordT)) := by show _ = _; rw [HF.out]; simp
          generalize (TA ++ 32 :: hexL m) = T at *
          have HKc := Lib.hid (k3')
          have hG2 := Lib.hid (fun w' (k : Keep [] _ w') => HG.out w' (HKc.out.then k))
          have HA4 := HAt.out.keep0 HKc.out
          have hsec : 0 < s.secs.length → ∃ b o, v.sa = some ⟨b, o, none⟩ ∧ ∀ w', Keep [] w4 w' → ∀ k, (hk : k < s.secs.length) → w'.cell? ⟨b, o + k * 3, none⟩ = some (.int .i64 s.secs[k].res) ∧ w'.cell? ⟨b, o + k * 3 + 1, none⟩ = some (.int .i64 s.secs[k].frm) ∧ w'.cell? ⟨b, o + k * 3 + 2, none⟩ = some (.int .i64 s.secs[k].to) := fun h0 => by
            obtain ⟨b, o, e, hb, hc⟩ := HA4.sec h0
            exact ⟨b, o, e, fun w' kk j hj => ⟨(kk.cell (p := ⟨b, o + j * 3, none⟩) hb (by simp)).trans (hc j hj 0 _ rfl), (kk.cell (p := ⟨b, o + j * 3 + 1, none⟩) hb (by simp)).trans (hc j hj 1 _ rfl), (kk.cell (p := ⟨b, o + j * 3 + 2, none⟩) hb (by simp)).trans (hc j hj 2 _ rfl)⟩⟩
          have hword : 0 < s.words.length → ∃ b o, v.wa = some ⟨b, o, none⟩ ∧ ∀ w', Keep [] w4 w' → ∀ k, (hk : k < s.words.length) → w'.cell? ⟨b, o + k, none⟩ = some (.int .u32 (s.words[k] : Int)) := fun h0 => by
            obtain ⟨b, o, e, hb, hc⟩ := HA4.word h0
            exact ⟨b, o, e, fun w' kk j hj => (kk.cell (p := ⟨b, o + j, none⟩) hb (by simp)).trans (hc j hj)⟩
          have hwok := HA4.ok
          clear HA4 HF
          go_wp2
          go_loopw [5, 3] (fun v5 v3 wr => ∃ j : Nat, j ≤ s.secs.length ∧ v5 = .int .i64 (j : Int) ∧ v3 = strOf (T ++ (s.secs.take j).flatMap secT) ∧ Keep [] w4 wr) (fun v5 _ _ => s.secs.length - (intOf v5).toNat)
          case atStart => exact ⟨0, Nat.zero_le _, rfl, by simp, Keep.refl _ _⟩
          case round =>
            obtain ⟨j, hj, rfl, rfl, hkj⟩ := hrel
            obtain ⟨b0, b1, b2, b3, b4⟩ := hG2.out _ hkj
            by_cases hjl : j < s.secs.length
            · obtain ⟨sb, so, hsa, hcs⟩ := hsec (by omega)
              obtain ⟨q1, q2, q3⟩ := hcs wr hkj j hjl
              have hpj0 : (0 : Int) ≤ (j : Int) := by omega
              have hpj1 : (j : Int) < (s.secs.length : Int) := by omega
              have hnj : Hid (T ++ (s.secs.take (j + 1)).flatMap secT = (T ++ (s.secs.take j).flatMap secT) ++ secT s.secs[j]) := by show _ = _; rw [List.take_succ_eq_append_getElem hjl, List.flatMap_append, List.append_assoc]; simp
              have hal : (T ++ (s.secs.take j).flatMap secT).length ≤ 300000000 := by
                have h1 := flatT_len secT 33 secT_len (s.secs.take j)
                rw [List.length_take] at h1
                rw [List.length_append]
                omega
              generalize T ++ (s.secs.take j).flatMap secT = acj at *
              generalize s.secs[j] = x at *
              rw [hsa] at b3
              clear hsa hcs hsec hword
              obtain ⟨V, hV⟩ : ∃ V, wr.alloc (.cells #[.int .i64 x.res, .int .i64 x.frm, .int .i64 x.to] 85) = V := ⟨_, rfl⟩
              have hd : Blk V wr.heap.size 85 #[.int .i64 x.res, .int .i64 x.frm, .int .i64 x.to] := by rw [← hV]; exact Blk.new _ _ _
              have hkV : Keep [] w4 V := by rw [← hV]; exact hkj.alloc _
              have hF : ∀ w', Keep [] V w' → w'.cell? ⟨wr.heap.size, 0, none⟩ = some (.int .i64 x.res) ∧ w'.cell? ⟨wr.heap.size, 1, none⟩ = some (.int .i64 x.frm) ∧ w'.cell? ⟨wr.heap.size, 2, none⟩ = some (.int .i64 x.to) := fun w' kk => ⟨(hd.keep0 kk).cell 0, (hd.keep0 kk).cell 1, (hd.keep0 kk).cell 2⟩
              go_upto_region 14 with fail
              have hr1 := decL_len10 x.res
              have hr2 := decL_len10 x.frm
              have hr3 := decL_len10 x.to
              refine wp_region_flow (Keep [] V) rfl (by kernel_rfl) (Keep.refl _ _).drew ?_
              (refine fl_val (v := ?_) (by rfl) ?_ ?_; rotate_left; (intro w' hS; obtain ⟨f1,f2,f3⟩ := hF w' hS; go_simp; with_reducible rfl); simp only [Act.put, List.setIfInBounds_toArray, List.set_cons_zero, List.set_cons_succ])
              (refine fl_val (v := ?_) (by rfl) ?_ ?_; rotate_left; (intro w' hS; obtain ⟨f1,f2,f3⟩ := hF w' hS; go_simp; with_reducible rfl); simp only [Act.put, List.setIfInBounds_toArray, List.set_cons_zero, List.set_cons_succ])
              (refine fl_val (v := ?_) (by rfl) ?_ ?_; rotate_left; (intro w' hS; obtain ⟨f1,f2,f3⟩ := hF w' hS; go_simp; with_reducible rfl); simp only [Act.put, List.setIfInBounds_toArray, List.set_cons_zero, List.set_cons_succ])
              refine fl_call (f := 42) (v := strOf (decL (clampN x.res))) (by rfl) rfl (by simp only [List.map_toArray, List.map_cons, List.map_nil]; rfl) Try.func42 (by kernel_rfl) (by kernel_rfl) (fun w' hS => ((rtext_fix x.res w').mono (fun e w'' h => ⟨h.1, hS.then h.2⟩))) ?_; simp only [Act.put, List.setIfInBounds_toArray, List.set_cons_zero, List.set_cons_succ]
              (refine fl_val (v := strOf ([32] ++ decL (clampN x.res))) (by rfl) (fun w' _ => exec_add rfl rfl (by simp; omega) w') ?_; simp only [Act.put, List.setIfInBounds_toArray, List.set_cons_zero, List.set_cons_succ])
              (refine fl_val (v := strOf (([32] ++ decL (clampN x.res)) ++ [58])) (by rfl) (fun w' _ => exec_add rfl rfl (by simp; omega) w') ?_; simp only [Act.put, List.setIfInBounds_toArray, List.set_cons_zero, List.set_cons_succ])
              (refine fl_val (v := ?_) (by rfl) ?_ ?_; rotate_left; (intro w' hS; obtain ⟨f1,f2,f3⟩ := hF w' hS; go_simp; with_reducible rfl); simp only [Act.put, List.setIfInBounds_toArray, List.set_cons_zero, List.set_cons_succ])
              (refine fl_val (v := ?_) (by rfl) ?_ ?_; rotate_left; (intro w' hS; obtain ⟨f1,f2,f3⟩ := hF w' hS; go_simp; with_reducible rfl); simp only [Act.put, List.setIfInBounds_toArray, List.set_cons_zero, List.set_cons_succ])
              refine fl_call (f := 42) (v := strOf (decL (clampN x.frm))) (by rfl) rfl (by simp only [List.map_toArray, List.map_cons, List.map_nil]; rfl) Try.func42 (by kernel_rfl) (by kernel_rfl) (fun w' hS => ((rtext_fix x.frm w').mono (fun e w'' h => ⟨h.1, hS.then h.2⟩))) ?_; simp only [Act.put, List.setIfInBounds_toArray, List.set_cons_zero, List.set_cons_succ]
              (refine fl_val (v := strOf ((([32] ++ decL (clampN x.res)) ++ [58]) ++ decL (clampN x.frm))) (by rfl) (fun w' _ => exec_add rfl rfl (by simp; omega) w') ?_; simp only [Act.put, List.setIfInBounds_toArray, List.set_cons_zero, List.set_cons_succ])
              (refine fl_val (v := strOf (((([32] ++ decL (clampN x.res)) ++ [58]) ++ decL (clampN x.frm)) ++ [45])) (by rfl) (fun w' _ => exec_add rfl rfl (by simp; omega) w') ?_; simp only [Act.put, List.setIfInBounds_toArray, List.set_cons_zero, List.set_cons_succ])
              (refine fl_val (v := ?_) (by rfl) ?_ ?_; rotate_left; (intro w' hS; obtain ⟨f1,f2,f3⟩ := hF w' hS; go_simp; with_reducible rfl); simp only [Act.put, List.setIfInBounds_toArray, List.set_cons_zero, List.set_cons_succ])
              (refine fl_val (v := ?_) (by rfl) ?_ ?_; rotate_left; (intro w' hS; obtain ⟨f1,f2,f3⟩ := hF w' hS; go_simp; with_reducible rfl); simp only [Act.put, List.setIfInBounds_toArray, List.set_cons_zero, List.set_cons_succ])
              refine fl_call (f := 42) (v := strOf (decL (clampN x.to))) (by rfl) rfl (by simp only [List.map_toArray, List.map_cons, List.map_nil]; rfl) Try.func42 (by kernel_rfl) (by kernel_rfl) (fun w' hS => ((rtext_fix x.to w').mono (fun e w'' h => ⟨h.1, hS.then h.2⟩))) ?_; simp only [Act.put, List.setIfInBounds_toArray, List.set_cons_zero, List.set_cons_succ]
              (refine fl_val (v := strOf ((((([32] ++ decL (clampN x.res)) ++ [58]) ++ decL (clampN x.frm)) ++ [45]) ++ decL (clampN x.to))) (by rfl) (fun w' _ => exec_add rfl rfl (by simp; omega) w') ?_; simp only [Act.put, List.setIfInBounds_toArray, List.set_cons_zero, List.set_cons_succ])
              (refine fl_val (v := strOf (acj ++ ((((([32] ++ decL (clampN x.res)) ++ [58]) ++ decL (clampN x.frm)) ++ [45]) ++ decL (clampN x.to)))) (by rfl) (fun w' _ => exec_add rfl rfl (by simp; omega) w') ?_; simp only [Act.put, List.setIfInBounds_toArray, List.set_cons_zero, List.set_cons_succ])
              (refine fl_val (v := ?_) (by rfl) ?_ ?_; rotate_left; (intro w' hS; obtain ⟨f1,f2,f3⟩ := hF w' hS; go_simp; with_reducible rfl); simp only [Act.put, List.setIfInBounds_toArray, List.set_cons_zero, List.set_cons_succ])
              refine fl_nil ?_
              intro w5 hS
              go_wp2
              go_roundw
              case rel => exact ⟨j + 1, by omega, by go_num, by rw [hnj.out]; simp [secT], hkV.then hS⟩
              case measure => simp [intOf]; omega
            · obtain rfl : j = s.secs.length := by omega
              rw [List.take_length]
              clear hsec hj hjl
              have hU : (T ++ s.secs.flatMap secT).length ≤ 100000000 := by
                have h1 := flatT_len secT 33 secT_len s.secs
                rw [List.length_append]
                omega
              have HFU : Hid (lineT s = (T ++ s.secs.flatMap secT) ++ s.words.flatMap wordT) := by show _ = _; rw [HFT.out, List.append_assoc]
              generalize T ++ s.secs.flatMap secT = U at *
              clear HFT
              have HKj := Lib.hid hkj
              clear hkj
              go_wp2
              go_loopw [7, 3] (fun v7 v3 wr => ∃ j : Nat, j ≤ s.words.length ∧ v7 = .int .i64 (j : Int) ∧ v3 = strOf (U ++ (s.words.take j).flatMap wordT) ∧ Keep [] w4 wr) (fun v7 _ _ => s.words.length - (intOf v7).toNat)
              case atStart => exact ⟨0, Nat.zero_le _, rfl, by simp, HKj.out⟩
              case round =>
                obtain ⟨j, hj, rfl, rfl, hkj⟩ := hrel
                obtain ⟨b0, b1, b2, b3, b4⟩ := hG2.out _ hkj
                by_cases hjl : j < s.words.length
                · obtain ⟨sb, so, hsa, hcs⟩ := hword (by omega)
                  have q1 := hcs wr hkj j hjl
                  have hpj0 : (0 : Int) ≤ (j : Int) := by omega
                  have hpj1 : (j : Int) < (s.words.length : Int) := by omega
                  have hnj : Hid (U ++ (s.words.take (j + 1)).flatMap wordT = (U ++ (s.words.take j).flatMap wordT) ++ 32 :: hexL s.words[j]) := by show _ = _; rw [List.take_succ_eq_append_getElem hjl, List.flatMap_append, List.append_assoc]; simp [wordT]
                  have hal : (U ++ (s.words.take j).flatMap wordT).length ≤ 300000000 := by
                    have h1 := flatT_len wordT 9 (fun x => by unfold wordT; rw [List.length_cons, hexL_len]; omega) (s.words.take j)
                    rw [List.length_take] at h1
                    rw [List.length_append]
                    omega
                  have hx := hwok _ (List.getElem_mem hjl)
                  generalize U ++ (s.words.take j).flatMap wordT = acj at *
                  generalize s.words[j] = x at *
                  have hr1 := hexL_len x
                  have had1 : ∀ W, (binOp .add 9 (.string { data := #[32] }) (strOf (hexL x))).run Try.prog W = .ok (strOf (32 :: (hexL x))) W := fun W => run_add_str (P := Try.prog) 9 [32] (hexL x) (by simp; omega) W
                  have had2 : ∀ W, (binOp .add 9 (strOf (acj)) (strOf (32 :: (hexL x)))).run Try.prog W = .ok (strOf (acj ++ 32 :: (hexL x))) W := fun W => run_add_str (P := Try.prog) 9 (acj) (32 :: (hexL x)) (by simp; omega) W
                  rw [hsa] at b4
                  clear hsa hcs hword
                  go_wp2_with fail
                  refine (rword_fix x _ hx).mono ?_
                  rintro e w6 ⟨rfl, k6⟩
                  go_wp2
                  go_roundw
                  case rel => exact ⟨j + 1, by omega, by go_num, by rw [hnj.out], hkj.then k6⟩
                  case measure => simp [intOf]; omega
                · obtain rfl : j = s.words.length := by omega
                  rw [List.take_length]
                  clear hword hj hjl
                  rw [← HFU.out]
                  go_wp2
                  go_ret
                  exact ⟨rfl, HK0.out.then (HKc.out.then hkj)⟩
      · obtain rfl := hnh rfl
        have had1 : ∀ W, (binOp .add 9 (.string { data := #[32] }) (strOf (decL (clampN s.n)))).run Try.prog W = .ok (strOf (32 :: (decL (clampN s.n)))) W := fun W => run_add_str (P := Try.prog) 9 [32] (decL (clampN s.n)) (by simp; omega) W
        have had2 : ∀ W, (binOp .add 9 (strOf (TA)) (strOf (32 :: (decL (clampN s.n))))).run Try.prog W = .ok (strOf (TA ++ 32 :: (decL (clampN s.n)))) W := fun W => run_add_str (P := Try.prog) 9 (TA) (32 :: (decL (clampN s.n))) (by simp; omega) W
        go_wp2_with fail
        refine (HHn _).out.mono ?_
        rintro e w4 ⟨rfl, rfl⟩
        go_wp2_with fail
        refine (rtext_fix s.n _).mono ?_
        rintro e w4 ⟨rfl, k4⟩
        replace k3' := k3'.then k4
        clear k4 a0 a1 a2 a3 a4
        obtain ⟨a0, a1, a2, a3, a4⟩ := HG.out _ k3'
        go_wp2_with fail
        refine (HHh _).out.mono ?_
        rintro e w5 ⟨rfl, rfl⟩
        have hTl : (TA ++ 32 :: decL (clampN s.n)).length ≤ 100 := by (try simp) <;> omega
        have HFT : Hid (lineT s = (TA ++ 32 :: decL (clampN s.n)) ++ (s.secs.flatMap secT ++ s.words.flatMap wordT)) := by show _ = _; rw [HF.out]; simp
        generalize (TA ++ 32 :: decL (clampN s.n)) = T at *
        have HKc := Lib.hid (k3')
        have hG2 := Lib.hid (fun w' (k : Keep [] _ w') => HG.out w' (HKc.out.then k))
        have HA4 := HAt.out.keep0 HKc.out
        have hsec : 0 < s.secs.length → ∃ b o, v.sa = some ⟨b, o, none⟩ ∧ ∀ w', Keep [] w4 w' → ∀ k, (hk : k < s.secs.length) → w'.cell? ⟨b, o + k * 3, none⟩ = some (.int .i64 s.secs[k].res) ∧ w'.cell? ⟨b, o + k * 3 + 1, none⟩ = some (.int .i64 s.secs[k].frm) ∧ w'.cell? ⟨b, o + k * 3 + 2, none⟩ = some (.int .i64 s.secs[k].to) := fun h0 => by
          obtain ⟨b, o, e, hb, hc⟩ := HA4.sec h0
          exact ⟨b, o, e, fun w' kk j hj => ⟨(kk.cell (p := ⟨b, o + j * 3, none⟩) hb (by simp)).trans (hc j hj 0 _ rfl), (kk.cell (p := ⟨b, o + j * 3 + 1, none⟩) hb (by simp)).trans (hc j hj 1 _ rfl), (kk.cell (p := ⟨b, o + j * 3 + 2, none⟩) hb (by simp)).trans (hc j hj 2 _ rfl)⟩⟩
        have hword : 0 < s.words.length → ∃ b o, v.wa = some ⟨b, o, none⟩ ∧ ∀ w', Keep [] w4 w' → ∀ k, (hk : k < s.words.length) → w'.cell? ⟨b, o + k, none⟩ = some (.int .u32 (s.words[k] : Int)) := fun h0 => by
          obtain ⟨b, o, e, hb, hc⟩ := HA4.word h0
          exact ⟨b, o, e, fun w' kk j hj => (kk.cell (p := ⟨b, o + j, none⟩) hb (by simp)).trans (hc j hj)⟩
        have hwok := HA4.ok
        clear HA4 HF
        go_wp2
        go_loopw [5, 3] (fun v5 v3 wr => ∃ j : Nat, j ≤ s.secs.length ∧ v5 = .int .i64 (j : Int) ∧ v3 = strOf (T ++ (s.secs.take j).flatMap secT) ∧ Keep [] w4 wr) (fun v5 _ _ => s.secs.length - (intOf v5).toNat)
        case atStart => exact ⟨0, Nat.zero_le _, rfl, by simp, Keep.refl _ _⟩
        case round =>
          obtain ⟨j, hj, rfl, rfl, hkj⟩ := hrel
          obtain ⟨b0, b1, b2, b3, b4⟩ := hG2.out _ hkj
          by_cases hjl : j < s.secs.length
          · obtain ⟨sb, so, hsa, hcs⟩ := hsec (by omega)
            obtain ⟨q1, q2, q3⟩ := hcs wr hkj j hjl
            have hpj0 : (0 : Int) ≤ (j : Int) := by omega
            have hpj1 : (j : Int) < (s.secs.length : Int) := by omega
            have hnj : Hid (T ++ (s.secs.take (j + 1)).flatMap secT = (T ++ (s.secs.take j).flatMap secT) ++ secT s.secs[j]) := by show _ = _; rw [List.take_succ_eq_append_getElem hjl, List.flatMap_append, List.append_assoc]; simp
            have hal : (T ++ (s.secs.take j).flatMap secT).length ≤ 300000000 := by
              have h1 := flatT_len secT 33 secT_len (s.secs.take j)
              rw [List.length_take] at h1
              rw [List.length_append]
              omega
            generalize T ++ (s.secs.take j).flatMap secT = acj at *
            generalize s.secs[j] = x at *
            rw [hsa] at b3
            clear hsa hcs hsec hword
            obtain ⟨V, hV⟩ : ∃ V, wr.alloc (.cells #[.int .i64 x.res, .int .i64 x.frm, .int .i64 x.to] 85) = V := ⟨_, rfl⟩
            have hd : Blk V wr.heap.size 85 #[.int .i64 x.res, .int .i64 x.frm, .int .i64 x.to] := by rw [← hV]; exact Blk.new _ _ _
            have hkV : Keep [] w4 V := by rw [← hV]; exact hkj.alloc _
            have hF : ∀ w', Keep [] V w' → w'.cell? ⟨wr.heap.size, 0, none⟩ = some (.int .i64 x.res) ∧ w'.cell? ⟨wr.heap.size, 1, none⟩ = some (.int .i64 x.frm) ∧ w'.cell? ⟨wr.heap.size, 2, none⟩ = some (.int .i64 x.to) := fun w' kk => ⟨(hd.keep0 kk).cell 0, (hd.keep0 kk).cell 1, (hd.keep0 kk).cell 2⟩
            go_upto_region 14 with fail
            have hr1 := decL_len10 x.res
            have hr2 := decL_len10 x.frm
            have hr3 := decL_len10 x.to
            refine wp_region_flow (Keep [] V) rfl (by kernel_rfl) (Keep.refl _ _).drew ?_
            (refine fl_val (v := ?_) (by rfl) ?_ ?_; rotate_left; (intro w' hS; obtain ⟨f1,f2,f3⟩ := hF w' hS; go_simp; with_reducible rfl); simp only [Act.put, List.setIfInBounds_toArray, List.set_cons_zero, List.set_cons_succ])
            (refine fl_val (v := ?_) (by rfl) ?_ ?_; rotate_left; (intro w' hS; obtain ⟨f1,f2,f3⟩ := hF w' hS; go_simp; with_reducible rfl); simp only [Act.put, List.setIfInBounds_toArray, List.set_cons_zero, List.set_cons_succ])
            (refine fl_val (v := ?_) (by rfl) ?_ ?_; rotate_left; (intro w' hS; obtain ⟨f1,f2,f3⟩ := hF w' hS; go_simp; with_reducible rfl); simp only [Act.put, List.setIfInBounds_toArray, List.set_cons_zero, List.set_cons_succ])
            refine fl_call (f := 42) (v := strOf (decL (clampN x.res))) (by rfl) rfl (by simp only [List.map_toArray, List.map_cons, List.map_nil]; rfl) Try.func42 (by kernel_rfl) (by kernel_rfl) (fun w' hS => ((rtext_fix x.res w').mono (fun e w'' h => ⟨h.1, hS.then h.2⟩))) ?_; simp only [Act.put, List.setIfInBounds_toArray, List.set_cons_zero, List.set_cons_succ]
            (refine fl_val (v := strOf ([32] ++ decL (clampN x.res))) (by rfl) (fun w' _ => exec_add rfl rfl (by simp; omega) w') ?_; simp only [Act.put, List.setIfInBounds_toArray, List.set_cons_zero, List.set_cons_succ])
            (refine fl_val (v := strOf (([32] ++ decL (clampN x.res)) ++ [58])) (by rfl) (fun w' _ => exec_add rfl rfl (by simp; omega) w') ?_; simp only [Act.put, List.setIfInBounds_toArray, List.set_cons_zero, List.set_cons_succ])
            (refine fl_val (v := ?_) (by rfl) ?_ ?_; rotate_left; (intro w' hS; obtain ⟨f1,f2,f3⟩ := hF w' hS; go_simp; with_reducible rfl); simp only [Act.put, List.setIfInBounds_toArray, List.set_cons_zero, List.set_cons_succ])
            (refine fl_val (v := ?_) (by rfl) ?_ ?_; rotate_left; (intro w' hS; obtain ⟨f1,f2,f3⟩ := hF w' hS; go_simp; with_reducible rfl); simp only [Act.put, List.setIfInBounds_toArray, List.set_cons_zero, List.set_cons_succ])
            refine fl_call (f := 42) (v := strOf (decL (clampN x.frm))) (by rfl) rfl (by simp only [List.map_toArray, List.map_cons, List.map_nil]; rfl) Try.func42 (by kernel_rfl) (by kernel_rfl) (fun w' hS => ((rtext_fix x.frm w').mono (fun e w'' h => ⟨h.1, hS.then h.2⟩))) ?_; simp only [Act.put, List.setIfInBounds_toArray, List.set_cons_zero, List.set_cons_succ]
            (refine fl_val (v := strOf ((([32] ++ decL (clampN x.res)) ++ [58]) ++ decL (clampN x.frm))) (by rfl) (fun w' _ => exec_add rfl rfl (by simp; omega) w') ?_; simp only [Act.put, List.setIfInBounds_toArray, List.set_cons_zero, List.set_cons_succ])
            (refine fl_val (v := strOf (((([32] ++ decL (clampN x.res)) ++ [58]) ++ decL (clampN x.frm)) ++ [45])) (by rfl) (fun w' _ => exec_add rfl rfl (by simp; omega) w') ?_; simp only [Act.put, List.setIfInBounds_toArray, List.set_cons_zero, List.set_cons_succ])
            (refine fl_val (v := ?_) (by rfl) ?_ ?_; rotate_left; (intro w' hS; obtain ⟨f1,f2,f3⟩ := hF w' hS; go_simp; with_reducible rfl); simp only [Act.put, List.setIfInBounds_toArray, List.set_cons_zero, List.set_cons_succ])
            (refine fl_val (v := ?_) (by rfl) ?_ ?_; rotate_left; (intro w' hS; obtain ⟨f1,f2,f3⟩ := hF w' hS; go_simp; with_reducible rfl); simp only [Act.put, List.setIfInBounds_toArray, List.set_cons_zero, List.set_cons_succ])
            refine fl_call (f := 42) (v := strOf (decL (clampN x.to))) (by rfl) rfl (by simp only [List.map_toArray, List.map_cons, List.map_nil]; rfl) Try.func42 (by kernel_rfl) (by kernel_rfl) (fun w' hS => ((rtext_fix x.to w').mono (fun e w'' h => ⟨h.1, hS.then h.2⟩))) ?_; simp only [Act.put, List.setIfInBounds_toArray, List.set_cons_zero, List.set_cons_succ]
            (refine fl_val (v := strOf ((((([32] ++ decL (clampN x.res)) ++ [58]) ++ decL (clampN x.frm)) ++ [45]) ++ decL (clampN x.to))) (by rfl) (fun w' _ => exec_add rfl rfl (by simp; omega) w') ?_; simp only [Act.put, List.setIfInBounds_toArray, List.set_cons_zero, List.set_cons_succ])
            (refine fl_val (v := strOf (acj ++ ((((([32] ++ decL (clampN x.res)) ++ [58]) ++ decL (clampN x.frm)) ++ [45]) ++ decL (clampN x.to)))) (by rfl) (fun w' _ => exec_add rfl rfl (by simp; omega) w') ?_; simp only [Act.put, List.setIfInBounds_toArray, List.set_cons_zero, List.set_cons_succ])
            (refine fl_val (v := ?_) (by rfl) ?_ ?_; rotate_left; (intro w' hS; obtain ⟨f1,f2,f3⟩ := hF w' hS; go_simp; with_reducible rfl); simp only [Act.put, List.setIfInBounds_toArray, List.set_cons_zero, List.set_cons_succ])
            refine fl_nil ?_
            intro w5 hS
            go_wp2
            go_roundw
            case rel => exact ⟨j + 1, by omega, by go_num, by rw [hnj.out]; simp [secT], hkV.then hS⟩
            case measure => simp [intOf]; omega
          · obtain rfl : j = s.secs.length := by omega
            rw [List.take_length]
            clear hsec hj hjl
            have hU : (T ++ s.secs.flatMap secT).length ≤ 100000000 := by
              have h1 := flatT_len secT 33 secT_len s.secs
              rw [List.length_append]
              omega
            have HFU : Hid (lineT s = (T ++ s.secs.flatMap secT) ++ s.words.flatMap wordT) := by show _ = _; rw [HFT.out, List.append_assoc]
            generalize T ++ s.secs.flatMap secT = U at *
            clear HFT
            have HKj := Lib.hid hkj
            clear hkj
            go_wp2
            go_loopw [7, 3] (fun v7 v3 wr => ∃ j : Nat, j ≤ s.words.length ∧ v7 = .int .i64 (j : Int) ∧ v3 = strOf (U ++ (s.words.take j).flatMap wordT) ∧ Keep [] w4 wr) (fun v7 _ _ => s.words.length - (intOf v7).toNat)
            case atStart => exact ⟨0, Nat.zero_le _, rfl, by simp, HKj.out⟩
            case round =>
              obtain ⟨j, hj, rfl, rfl, hkj⟩ := hrel
              obtain ⟨b0, b1, b2, b3, b4⟩ := hG2.out _ hkj
              by_cases hjl : j < s.words.length
              · obtain ⟨sb, so, hsa, hcs⟩ := hword (by omega)
                have q1 := hcs wr hkj j hjl
                have hpj0 : (0 : Int) ≤ (j : Int) := by omega
                have hpj1 : (j : Int) < (s.words.length : Int) := by omega
                have hnj : Hid (U ++ (s.words.take (j + 1)).flatMap wordT = (U ++ (s.words.take j).flatMap wordT) ++ 32 :: hexL s.words[j]) := by show _ = _; rw [List.take_succ_eq_append_getElem hjl, List.flatMap_append, List.append_assoc]; simp [wordT]
                have hal : (U ++ (s.words.take j).flatMap wordT).length ≤ 300000000 := by
                  have h1 := flatT_len wordT 9 (fun x => by unfold wordT; rw [List.length_cons, hexL_len]; omega) (s.words.take j)
                  rw [List.length_take] at h1
                  rw [List.length_append]
                  omega
                have hx := hwok _ (List.getElem_mem hjl)
                generalize U ++ (s.words.take j).flatMap wordT = acj at *
                generalize s.words[j] = x at *
                have hr1 := hexL_len x
                have had1 : ∀ W, (binOp .add 9 (.string { data := #[32] }) (strOf (hexL x))).run Try.prog W = .ok (strOf (32 :: (hexL x))) W := fun W => run_add_str (P := Try.prog) 9 [32] (hexL x) (by simp; omega) W
                have had2 : ∀ W, (binOp .add 9 (strOf (acj)) (strOf (32 :: (hexL x)))).run Try.prog W = .ok (strOf (acj ++ 32 :: (hexL x))) W := fun W => run_add_str (P := Try.prog) 9 (acj) (32 :: (hexL x)) (by simp; omega) W
                rw [hsa] at b4
                clear hsa hcs hword
                go_wp2_with fail
                refine (rword_fix x _ hx).mono ?_
                rintro e w6 ⟨rfl, k6⟩
                go_wp2
                go_roundw
                case rel => exact ⟨j + 1, by omega, by go_num, by rw [hnj.out], hkj.then k6⟩
                case measure => simp [intOf]; omega
              · obtain rfl : j = s.words.length := by omega
                rw [List.take_length]
                clear hword hj hjl
                rw [← HFU.out]
                go_wp2
                go_ret
                exact ⟨rfl, HK0.out.then (HKc.out.then hkj)⟩
end Go.Proofs.Ytoepkhkaifgddaa
