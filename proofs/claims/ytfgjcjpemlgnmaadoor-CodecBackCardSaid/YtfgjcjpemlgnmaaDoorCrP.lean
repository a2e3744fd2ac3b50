/- Reading an image's words back, by the program and by the document: plain; no program in sight. No condition. What is read of an image's own words is the image: the program's reading; plain; no program in sight. No condition. What the program reads of a right image's words is the image; plain; no program in sight. No condition. The program's image of words: what it is, and that a right image's words are its own; plain; no program in sight. No condition. The document's image of words is the program's; plain; no program in sight. No condition. -/
import Derived.Test.YtfgjcjpemlgnmaaDoorCrPlain
import Derived.Test.YtfgjcjpemlgnmaaDoorCwRight
namespace Go.Proofs.YtfgjcjpemlgnmaaDoor

/-- The next word of a row, from place p on, which is at most most: it, where one goes on, and whether all is lost. -/
def nextM (l : List Int) (st : Nat × Bool) (most : Int) : Int × Nat × Bool :=
  if st.2 = true then (0, st.1, true) else match l[st.1]? with | none => (0, st.1, true) | some n => if most < n then (0, st.1, true) else (n, st.1 + 1, false)
theorem nextM_le (l : List Int) (st : Nat × Bool) (most : Int) (h : st.1 ≤ l.length) : (nextM l st most).2.1 ≤ l.length := by
  unfold nextM
  split
  · exact h
  · split
    · exact h
    · rename_i n hn
      have : st.1 < l.length := by
        rcases Nat.lt_or_ge st.1 l.length with h1 | h1
        · exact h1
        · rw [List.getElem?_eq_none h1] at hn; cases hn
      split
      · exact h
      · exact this
theorem nextM_in (l : List Int) (hl : ∀ n ∈ l, 0 ≤ n ∧ n < 4294967296) (st : Nat × Bool) (most : Int) (hm : 0 ≤ most) : 0 ≤ (nextM l st most).1 ∧ (nextM l st most).1 ≤ most ∧ (nextM l st most).1 < 4294967296 := by
  unfold nextM
  split
  · exact ⟨Int.le_refl _, hm, (by decide : (0 : Int) < 4294967296)⟩
  · split
    · exact ⟨Int.le_refl _, hm, (by decide : (0 : Int) < 4294967296)⟩
    · rename_i n hn
      have := hl n (List.mem_of_getElem? hn)
      split
      · exact ⟨Int.le_refl _, hm, (by decide : (0 : Int) < 4294967296)⟩
      · exact ⟨this.1, by omega, this.2⟩
theorem nextM_zero (l : List Int) (st : Nat × Bool) (most : Int) : (nextM l st most).2.2 = true → (nextM l st most).1 = 0 := by
  unfold nextM
  split
  · exact fun _ => rfl
  · split
    · exact fun _ => rfl
    · split
      · exact fun _ => rfl
      · intro h; cases h
/-- What a task holds, word by word. -/
def lonStep (l : List Int) (p : List Int × Nat × Bool) (k : Nat) : List Int × Nat × Bool := (p.1.set k (nextM l p.2 4096).1, (nextM l p.2 4096).2.1, (nextM l p.2 4096).2.2 || (nextM l p.2 4096).1 == 0)
def lonM (l : List Int) (ks : List Nat) (lon : List Int) (st : Nat × Bool) : List Int × Nat × Bool := ks.foldl (lonStep l) (lon, st)
def taskM (l : List Int) (st : Nat × Bool) : Tsk × Nat × Bool :=
  let r1 := nextM l st 4096
  let r2 := nextM l r1.2 4096
  let r3 := nextM l r2.2 4096
  let r4 := nextM l r3.2 255
  let r5 := lonM l (bitsL r4.1.toNat) (List.replicate 8 0) r4.2
  (⟨r1.1, r2.1, r3.1, r5.1⟩, r5.2)
/-- Queues, one by one. -/
def qsM (l : List Int) (st : Nat × Bool) : Nat → List Que × Nat × Bool
  | 0 => ([], st)
  | n + 1 => let p := qsM l st n; let a := nextM l p.2 16; let b := nextM l a.2 3; (p.1 ++ [⟨a.1, b.1⟩], b.2)
def modeM (l : List Int) (st : Nat × Bool) : Mdd × Nat × Bool :=
  let a := nextM l st 65535
  let b := nextM l a.2 4
  let q := qsM l b.2 b.1.toNat
  (⟨a.1.toNat, q.1⟩, q.2)
def mapM4 (l : List Int) (st : Nat × Bool) : Nat → List Int × Nat × Bool
  | 0 => (List.replicate 4 0, st)
  | n + 1 => let p := mapM4 l st n; let a := nextM l p.2 4; (p.1.set n a.1, a.2)
def offStep (l : List Int) (p : List Int × Nat × Bool) (k : Nat) : List Int × Nat × Bool := (p.1.set k (nextM l p.2 16384).1, (nextM l p.2 16384).2)
def offM (l : List Int) (ks : List Nat) (offs : List Int) (st : Nat × Bool) : List Int × Nat × Bool := ks.foldl (offStep l) (offs, st)
def edgeM (l : List Int) (x : Img) (st : Nat × Bool) : Edg × Nat × Bool :=
  let a := nextM l st 8
  let b := nextM l a.2 8
  let c := nextM l b.2 3
  let m := mapM4 l c.2 4
  if c.1 = 3 then
    let o := offM l (bitsL (freshN x ⟨a.1, b.1, c.1, List.replicate 16 0, m.1⟩)) (List.replicate 16 0) m.2
    (⟨a.1, b.1, c.1, o.1, m.1⟩, o.2)
  else (⟨a.1, b.1, c.1, List.replicate 16 0, m.1⟩, m.2)
def tsM (l : List Int) (st : Nat × Bool) : Nat → List Tsk × Nat × Bool
  | 0 => ([], st)
  | n + 1 => let p := tsM l st n; let r := taskM l p.2; (p.1 ++ [r.1], r.2)
def msM (l : List Int) (st : Nat × Bool) : Nat → List Mdd × Nat × Bool
  | 0 => ([], st)
  | n + 1 => let p := msM l st n; let r := modeM l p.2; (p.1 ++ [r.1], r.2)
def esM (l : List Int) (x : Img) (st : Nat × Bool) : Nat → List Edg × Nat × Bool
  | 0 => ([], st)
  | n + 1 => let p := esM l x st n; let r := edgeM l { x with edges := p.1 } p.2; (p.1 ++ [r.1], r.2)
/-- All that is read, whether it may be or not. -/
def decM (l : List Int) : Img × Nat × Bool :=
  let m := nextM l (0, false) 1380273457
  let r := nextM l (m.2.1, m.1 != 1380273457) 8
  let a := nextM l r.2 16
  let b := nextM l a.2 8
  let c := nextM l b.2 24
  let t := tsM l c.2 a.1.toNat
  let q := msM l t.2 b.1.toNat
  let e := esM l ⟨r.1, t.1, q.1, []⟩ q.2 c.1.toNat
  (⟨r.1, t.1, q.1, e.1⟩, e.2)
/-- The image of words, by the program. -/
def progD (l : List Int) : Option Img := if (decM l).2.2 = true ∨ (decM l).2.1 ≠ l.length then none else if (chkImg (decM l).1).2 = 0 then some (decM l).1 else none

/-- What has been read without a fault is what stands there. -/
def Rd (l : List Int) (st : Nat × Bool) (ws : List Int) (st' : Nat × Bool) : Prop := st'.2 = false → st.2 = false ∧ st'.1 = st.1 + ws.length ∧ l.take st'.1 = l.take st.1 ++ ws
theorem Rd.refl (l : List Int) (st : Nat × Bool) : Rd l st [] st := fun h => ⟨h, rfl, by simp⟩
theorem Rd.then {l : List Int} {st st' st'' : Nat × Bool} {ws ws' : List Int} (h : Rd l st ws st') (k : Rd l st' ws' st'') : Rd l st (ws ++ ws') st'' := fun hb => by
  obtain ⟨k1, k2, k3⟩ := k hb
  obtain ⟨h1, h2, h3⟩ := h k1
  exact ⟨h1, by rw [k2, h2, List.length_append, Nat.add_assoc], by rw [k3, h3, List.append_assoc]⟩
theorem Rd.bad {l : List Int} {st st' : Nat × Bool} {ws : List Int} (h : Rd l st ws st') (b : Bool) : Rd l st ws (st'.1, st'.2 || b) := fun hb => by
  have hb' : (st'.2 || b) = false := hb
  rw [Bool.or_eq_false_iff] at hb'
  exact h hb'.1
theorem nextM_rd (l : List Int) (st : Nat × Bool) (most : Int) : Rd l st [(nextM l st most).1] (nextM l st most).2 := by
  unfold nextM
  split
  · intro h; cases h
  · rename_i hb
    split
    · intro h; cases h
    · rename_i n hn
      split
      · intro h; cases h
      · intro _
        refine ⟨by cases hx : st.2 <;> simp_all, rfl, ?_⟩
        rw [List.take_add_one, hn]
        rfl
theorem lonM_rd (l : List Int) (hl : ∀ n ∈ l, 0 ≤ n ∧ n < 4294967296) : ∀ (ks : List Nat) (lon : List Int) (st : Nat × Bool), ∃ vs, vs.length = ks.length ∧ (lonM l ks lon st).1 = fillL ks vs lon ∧ Rd l st vs (lonM l ks lon st).2 ∧ ((lonM l ks lon st).2.2 = false → ∀ v ∈ vs, 0 < v)
  | [], lon, st => ⟨[], rfl, rfl, Rd.refl _ _, fun _ v hv => by cases hv⟩
  | k :: ks, lon, st => by
    have e : lonM l (k :: ks) lon st = lonM l ks (lonStep l (lon, st) k).1 (lonStep l (lon, st) k).2 := rfl
    rw [e]
    obtain ⟨vs, h1, h2, h3, h4⟩ := lonM_rd l hl ks (lonStep l (lon, st) k).1 (lonStep l (lon, st) k).2
    have hr : Rd l st [(nextM l st 4096).1] (lonStep l (lon, st) k).2 := (nextM_rd l st 4096).bad _
    refine ⟨(nextM l st 4096).1 :: vs, by simp [h1], h2, hr.then h3, fun hb v hv => ?_⟩
    rcases List.mem_cons.1 hv with rfl | hv
    · have hs := (h3 hb).1
      have hs' : ((nextM l st 4096).2.2 || (nextM l st 4096).1 == 0) = false := hs
      rw [Bool.or_eq_false_iff] at hs'
      have h0 := (nextM_in l hl st 4096 (by decide)).1
      have h5 : ¬ (nextM l st 4096).1 = 0 := beq_eq_false_iff_ne.1 hs'.2
      omega
    · exact h4 hb v hv
theorem taskM_rd (l : List Int) (hl : ∀ n ∈ l, 0 ≤ n ∧ n < 4294967296) (st : Nat × Bool) : ((taskM l st).2.2 = false → Rd l st (wordsT (taskM l st).1) (taskM l st).2) ∧ (taskM l st).1.lon.length = 8 := by
  have h1 := nextM_rd l st 4096
  have h2 := nextM_rd l (nextM l st 4096).2 4096
  have h3 := nextM_rd l (nextM l (nextM l st 4096).2 4096).2 4096
  have h4 := nextM_rd l (nextM l (nextM l (nextM l st 4096).2 4096).2 4096).2 255
  have h4b := nextM_in l hl (nextM l (nextM l (nextM l st 4096).2 4096).2 4096).2 255 (by decide)
  unfold taskM
  dsimp only
  generalize nextM l st 4096 = r1 at *
  generalize nextM l r1.2 4096 = r2 at *
  generalize nextM l r2.2 4096 = r3 at *
  generalize nextM l r3.2 255 = r4 at *
  obtain ⟨vs, g1, g2, g3, g4⟩ := lonM_rd l hl (bitsL r4.1.toNat) (List.replicate 8 0) r4.2
  refine ⟨fun hb => ?_, by rw [g2, fillL_len]; simp⟩
  have hf := fill_all r4.1.toNat vs (by omega) (g4 hb) g1
  rw [g2]
  unfold wordsT
  dsimp only
  rw [hf.1, hf.2]
  have := (((h1.then h2).then h3).then h4).then g3
  rw [Int.toNat_of_nonneg h4b.1]
  exact this
theorem qsM_rd (l : List Int) (st : Nat × Bool) : ∀ n, Rd l st ((qsM l st n).1.flatMap queInts) (qsM l st n).2 ∧ (qsM l st n).1.length = n
  | 0 => ⟨Rd.refl _ _, rfl⟩
  | n + 1 => by
    obtain ⟨h, hn⟩ := qsM_rd l st n
    refine ⟨?_, by simp [qsM, hn]⟩
    have h1 := nextM_rd l (qsM l st n).2 16
    have h2 := nextM_rd l (nextM l (qsM l st n).2 16).2 3
    have := (h.then h1).then h2
    rw [qsM]
    dsimp only
    rw [List.flatMap_append]
    rw [List.append_assoc] at this
    exact this
theorem modeM_rd (l : List Int) (hl : ∀ n ∈ l, 0 ≤ n ∧ n < 4294967296) (st : Nat × Bool) : Rd l st (wordsM (modeM l st).1) (modeM l st).2 ∧ (modeM l st).1.set < 65536 := by
  have h1 := nextM_rd l st 65535
  have b1 := nextM_in l hl st 65535 (by decide)
  have h2 := nextM_rd l (nextM l st 65535).2 4
  have b2 := nextM_in l hl (nextM l st 65535).2 4 (by decide)
  unfold modeM
  dsimp only
  generalize nextM l st 65535 = a at *
  generalize nextM l a.2 4 = b at *
  obtain ⟨h3, h4⟩ := qsM_rd l b.2 b.1.toNat
  refine ⟨?_, by omega⟩
  have := (h1.then h2).then h3
  unfold wordsM
  dsimp only
  rw [h4, Int.toNat_of_nonneg b1.1, Int.toNat_of_nonneg b2.1]
  exact this
theorem mapM4_rd (l : List Int) (st : Nat × Bool) : ∀ n, n ≤ 4 → (mapM4 l st n).1.length = 4 ∧ Rd l st ((mapM4 l st n).1.take n) (mapM4 l st n).2
  | 0, _ => ⟨by simp [mapM4], Rd.refl _ _⟩
  | n + 1, h => by
    obtain ⟨h1, h2⟩ := mapM4_rd l st n (by omega)
    have h3 := nextM_rd l (mapM4 l st n).2 4
    rw [mapM4]
    dsimp only
    refine ⟨by rw [List.length_set]; exact h1, ?_⟩
    rw [List.take_succ_eq_append_getElem (by rw [List.length_set]; omega), List.take_set_of_le (Nat.le_refl _), List.getElem_set_self]
    exact h2.then h3
theorem offM_rd (l : List Int) : ∀ (ks : List Nat) (offs : List Int) (st : Nat × Bool), ∃ vs, vs.length = ks.length ∧ (offM l ks offs st).1 = fillL ks vs offs ∧ Rd l st vs (offM l ks offs st).2
  | [], offs, st => ⟨[], rfl, rfl, Rd.refl _ _⟩
  | k :: ks, offs, st => by
    have e : offM l (k :: ks) offs st = offM l ks (offStep l (offs, st) k).1 (offStep l (offs, st) k).2 := rfl
    rw [e]
    obtain ⟨vs, h1, h2, h3⟩ := offM_rd l ks (offStep l (offs, st) k).1 (offStep l (offs, st) k).2
    exact ⟨(nextM l st 16384).1 :: vs, by simp [h1], h2, (nextM_rd l st 16384).then h3⟩
theorem fillL_other : ∀ (ks : List Nat) (vs l : List Int) (k : Nat), k ∉ ks → (fillL ks vs l).getD k 0 = l.getD k 0
  | [], _, _, _, _ => rfl
  | _ :: _, [], _, _, _ => rfl
  | a :: ks, v :: vs, l, k, h => by
    rw [fillL, fillL_other ks vs _ k (fun hk => h (by simp [hk])), List.getD_eq_getElem?_getD, List.getElem?_set_ne (fun e => h (by simp [e])), ← List.getD_eq_getElem?_getD]
theorem fillL_gets : ∀ (ks : List Nat) (vs l : List Int), ks.Nodup → vs.length = ks.length → (∀ k ∈ ks, k < l.length) → ks.map (fun k => (fillL ks vs l).getD k 0) = vs
  | [], [], _, _, _, _ => rfl
  | [], _ :: _, _, _, h, _ => by simp at h
  | _ :: _, [], _, _, h, _ => by simp at h
  | a :: ks, v :: vs, l, hn, hl, hk => by
    obtain ⟨h1, h2⟩ := List.nodup_cons.1 hn
    have hg := fillL_gets ks vs (l.set a v) h2 (by simpa using hl) (fun k hk' => by rw [List.length_set]; exact hk k (by simp [hk']))
    rw [List.map_cons, fillL, hg, fillL_other ks vs _ a h1, List.getD_eq_getElem?_getD, List.getElem?_set_self (hk a (by simp))]
    rfl
theorem bitsL_nodup (s : Nat) : (bitsL s).Nodup := List.nodup_range.filter _
theorem edgeM_rd (l : List Int) (x : Img) (hf : ∀ e : Edg, ∀ k ∈ bitsL (freshN x e), k < 16) (st : Nat × Bool) : Rd l st (wordsE x (edgeM l x st).1) (edgeM l x st).2 ∧ (edgeM l x st).1.offs.length = 16 ∧ (edgeM l x st).1.mp.length = 4 := by
  have h1 := nextM_rd l st 8
  have h2 := nextM_rd l (nextM l st 8).2 8
  have h3 := nextM_rd l (nextM l (nextM l st 8).2 8).2 3
  unfold edgeM
  dsimp only
  generalize nextM l st 8 = a at *
  generalize nextM l a.2 8 = b at *
  generalize nextM l b.2 3 = c at *
  obtain ⟨g1, g2⟩ := mapM4_rd l c.2 4 (Nat.le_refl _)
  rw [List.take_of_length_le (by omega)] at g2
  generalize mapM4 l c.2 4 = m at *
  have h4 := ((h1.then h2).then h3).then g2
  split
  · rename_i hc
    obtain ⟨vs, k1, k2, k3⟩ := offM_rd l (bitsL (freshN x ⟨a.1, b.1, c.1, List.replicate 16 0, m.1⟩)) (List.replicate 16 0) m.2
    refine ⟨?_, by rw [k2, fillL_len]; simp, g1⟩
    rw [k2]
    unfold wordsE
    dsimp only
    rw [if_pos hc]
    have hfr : ∀ o, freshN x ⟨a.1, b.1, c.1, o, m.1⟩ = freshN x ⟨a.1, b.1, c.1, List.replicate 16 0, m.1⟩ := fun _ => rfl
    rw [hfr (fillL (bitsL (freshN x ⟨a.1, b.1, c.1, List.replicate 16 0, m.1⟩)) vs (List.replicate 16 0)), fillL_gets _ vs (List.replicate 16 0) (bitsL_nodup _) k1 (fun k hk => by rw [List.length_replicate]; exact hf _ k hk)]
    have := h4.then k3
    rw [List.append_assoc] at this
    exact this
  · rename_i hc
    refine ⟨?_, by simp, g1⟩
    unfold wordsE
    dsimp only
    rw [if_neg hc, List.append_nil]
    exact h4
theorem Rd.off {l : List Int} {st st' : Nat × Bool} {ws : List Int} (h : Rd l st ws st') (hb : st'.2 = false) : st.2 = false := (h hb).1
end Go.Proofs.YtfgjcjpemlgnmaaDoor

namespace Go.Proofs.YtfgjcjpemlgnmaaDoor

theorem tsM_rd (l : List Int) (hl : ∀ n ∈ l, 0 ≤ n ∧ n < 4294967296) (st : Nat × Bool) : ∀ n, ((tsM l st n).2.2 = false → Rd l st ((tsM l st n).1.flatMap wordsT) (tsM l st n).2) ∧ (tsM l st n).1.length = n ∧ ∀ t ∈ (tsM l st n).1, t.lon.length = 8
  | 0 => ⟨fun _ => Rd.refl _ _, rfl, fun t ht => by cases ht⟩
  | n + 1 => by
    obtain ⟨h1, h2, h3⟩ := tsM_rd l hl st n
    obtain ⟨k1, k2⟩ := taskM_rd l hl (tsM l st n).2
    rw [tsM]
    dsimp only
    refine ⟨fun hb => ?_, by simp [h2], fun t ht => ?_⟩
    · have hk := k1 hb
      have := (h1 (hk.off hb)).then hk
      rw [List.flatMap_append]
      simpa using this
    · rcases List.mem_append.1 ht with ht | ht
      · exact h3 t ht
      · simp at ht; subst ht; exact k2
theorem msM_rd (l : List Int) (hl : ∀ n ∈ l, 0 ≤ n ∧ n < 4294967296) (st : Nat × Bool) : ∀ n, Rd l st ((msM l st n).1.flatMap wordsM) (msM l st n).2 ∧ (msM l st n).1.length = n ∧ ∀ m ∈ (msM l st n).1, m.set < 65536
  | 0 => ⟨Rd.refl _ _, rfl, fun t ht => by cases ht⟩
  | n + 1 => by
    obtain ⟨h1, h2, h3⟩ := msM_rd l hl st n
    obtain ⟨k1, k2⟩ := modeM_rd l hl (msM l st n).2
    rw [msM]
    dsimp only
    refine ⟨?_, by simp [h2], fun t ht => ?_⟩
    · have := h1.then k1
      rw [List.flatMap_append]
      simpa using this
    · rcases List.mem_append.1 ht with ht | ht
      · exact h3 t ht
      · simp at ht; subst ht; exact k2
theorem freshN_modes (x y : Img) (h : x.modes = y.modes) (e : Edg) : freshN x e = freshN y e := by
  unfold freshN setOf10
  rw [h]
theorem wordsE_modes (x y : Img) (h : x.modes = y.modes) (e : Edg) : wordsE x e = wordsE y e := by
  unfold wordsE
  rw [freshN_modes x y h]
/-- Modes of which all tasks are below 16: so are the new ones of any edge. -/
theorem fresh16 {x : Img} (h : ∀ m ∈ x.modes, m.set < 65536) (e : Edg) : ∀ k ∈ bitsL (freshN x e), k < 16 := fun k hk => by
  have hb : (freshN x e).testBit k = true := (List.mem_filter.1 hk).2
  have hs : setOf10 x e.to < 65536 := by
    unfold setOf10
    split
    · rename_i hm
      rw [List.getD_eq_getElem?_getD, List.getElem?_eq_getElem (by omega)]
      exact h _ (List.getElem_mem _)
    · decide
  have hlt : freshN x e < 2 ^ 16 := Nat.lt_of_le_of_lt Nat.and_le_left hs
  by_cases hk16 : k < 16
  · exact hk16
  · rw [Nat.testBit_lt_two_pow (Nat.lt_of_lt_of_le hlt (Nat.pow_le_pow_right (by decide) (by omega)))] at hb
    cases hb
theorem esM_rd (l : List Int) (x : Img) (hx : ∀ m ∈ x.modes, m.set < 65536) (st : Nat × Bool) : ∀ n, Rd l st ((esM l x st n).1.flatMap (wordsE x)) (esM l x st n).2 ∧ (esM l x st n).1.length = n ∧ ∀ e ∈ (esM l x st n).1, e.offs.length = 16 ∧ e.mp.length = 4
  | 0 => ⟨Rd.refl _ _, rfl, fun t ht => by cases ht⟩
  | n + 1 => by
    obtain ⟨h1, h2, h3⟩ := esM_rd l x hx st n
    obtain ⟨k1, k2, k3⟩ := edgeM_rd l { x with edges := (esM l x st n).1 } (fun e => fresh16 hx e) (esM l x st n).2
    rw [esM]
    dsimp only
    refine ⟨?_, by simp [h2], fun t ht => ?_⟩
    · rw [wordsE_modes { x with edges := (esM l x st n).1 } x rfl] at k1
      have := h1.then k1
      rw [List.flatMap_append]
      simpa using this
    · rcases List.mem_append.1 ht with ht | ht
      · exact h3 t ht
      · simp at ht; subst ht; exact ⟨k2, k3⟩
/-- All that is read. -/
theorem decM_rd (l : List Int) (hl : ∀ n ∈ l, 0 ≤ n ∧ n < 4294967296) : ((decM l).2.2 = false → (decM l).2.1 = (wordsI (decM l).1).length ∧ l.take (decM l).2.1 = wordsI (decM l).1) ∧ (decM l).1.Ok ∧ ∀ m ∈ (decM l).1.modes, m.set < 65536 := by
  have h0 := nextM_rd l (0, false) 1380273457
  have hz := nextM_zero l (0, false) 1380273457
  unfold decM
  dsimp only
  generalize nextM l (0, false) 1380273457 = m at *
  have h1 := nextM_rd l (m.2.1, m.1 != 1380273457) 8
  generalize nextM l (m.2.1, m.1 != 1380273457) 8 = r at *
  have h2 := nextM_rd l r.2 16
  have b2 := (nextM_in l hl r.2 16 (by decide)).1
  generalize nextM l r.2 16 = a at *
  have h3 := nextM_rd l a.2 8
  have b3 := (nextM_in l hl a.2 8 (by decide)).1
  generalize nextM l a.2 8 = b at *
  have h4 := nextM_rd l b.2 24
  have b4 := (nextM_in l hl b.2 24 (by decide)).1
  generalize nextM l b.2 24 = c at *
  obtain ⟨t1, t2, t3⟩ := tsM_rd l hl c.2 a.1.toNat
  generalize tsM l c.2 a.1.toNat = t at *
  obtain ⟨q1, q2, q3⟩ := msM_rd l hl t.2 b.1.toNat
  generalize msM l t.2 b.1.toNat = q at *
  obtain ⟨e1, e2, e3⟩ := esM_rd l ⟨r.1, t.1, q.1, []⟩ q3 q.2 c.1.toNat
  generalize esM l ⟨r.1, t.1, q.1, []⟩ q.2 c.1.toNat = e at *
  refine ⟨fun hb => ?_, ⟨t3, fun x hx => (e3 x hx).1, fun x hx => (e3 x hx).2, fun x hx => Nat.lt_trans (q3 x hx) (by decide)⟩, q3⟩
  have hqb := e1.off hb
  have htb := q1.off hqb
  have ht := t1 htb
  have hcb := ht.off htb
  have hbb := h4.off hcb
  have hab := h3.off hbb
  have hrb := h2.off hab
  have hmb := h1.off hrb
  have hmm : m.1 = 1380273457 := by
    have : (m.1 != 1380273457) = false := hmb
    simpa using this
  have hm2 : m.2.2 = false := by
    cases hx : m.2.2 with
    | false => rfl
    | true =>
      have := hz hx
      rw [hmm] at this
      cases this
  have h0' : Rd l (0, false) [m.1] (m.2.1, m.1 != 1380273457) := fun _ => h0 hm2
  have all := (((((h0'.then h1).then h2).then h3).then h4).then ht).then (q1.then e1)
  obtain ⟨_, p1, p2⟩ := all hb
  have hw : [m.1] ++ [r.1] ++ [a.1] ++ [b.1] ++ [c.1] ++ t.1.flatMap wordsT ++ (q.1.flatMap wordsM ++ e.1.flatMap (wordsE ⟨r.1, t.1, q.1, []⟩)) = wordsI ⟨r.1, t.1, q.1, e.1⟩ := by
    unfold wordsI headI
    dsimp only
    rw [hmm, t2, q2, e2, Int.toNat_of_nonneg b2, Int.toNat_of_nonneg b3, Int.toNat_of_nonneg b4]
    simp only [List.cons_append, List.nil_append]
    rfl
  rw [hw] at p1 p2
  rw [List.take_zero, List.nil_append] at p2
  exact ⟨by rw [p1]; simp, p2⟩
end Go.Proofs.YtfgjcjpemlgnmaaDoor

namespace Go.Proofs.YtfgjcjpemlgnmaaDoor

/-- From place p on there stand the words ws. -/
def At (l : List Int) (p : Nat) (ws : List Int) : Prop := ∀ i, i < ws.length → l[p + i]? = ws[i]?
theorem At.nil (l : List Int) (p : Nat) : At l p [] := fun i hi => absurd hi (by simp)
theorem At.left {l : List Int} {p : Nat} {a b : List Int} (h : At l p (a ++ b)) : At l p a := fun i hi => by
  rw [h i (by rw [List.length_append]; omega), List.getElem?_append_left hi]
theorem At.right {l : List Int} {p : Nat} {a b : List Int} (h : At l p (a ++ b)) : At l (p + a.length) b := fun i hi => by
  rw [Nat.add_assoc, h (a.length + i) (by rw [List.length_append]; omega), List.getElem?_append_right (by omega)]
  congr 1
  omega
theorem At.head {l : List Int} {p : Nat} {v : Int} {b : List Int} (h : At l p (v :: b)) : l[p]? = some v := by
  have := h 0 (by simp)
  simpa using this
theorem At.tail {l : List Int} {p : Nat} {v : Int} {b : List Int} (h : At l p (v :: b)) : At l (p + 1) b := At.right (a := [v]) h
theorem At.self (l : List Int) : At l 0 l := fun i _ => by rw [Nat.zero_add]
theorem nextM_at {l : List Int} {p : Nat} {v : Int} {most : Int} (h : l[p]? = some v) (hm : v ≤ most) : nextM l (p, false) most = (v, p + 1, false) := by
  unfold nextM
  rw [if_neg (by simp)]
  simp only [h]
  rw [if_neg (by omega)]
theorem lonM_at (l : List Int) : ∀ (ks : List Nat) (vs lon : List Int) (p : Nat), vs.length = ks.length → At l p vs → (∀ v ∈ vs, v ≤ 4096 ∧ v ≠ 0) → lonM l ks lon (p, false) = (fillL ks vs lon, p + vs.length, false)
  | [], [], lon, p, _, _, _ => rfl
  | [], _ :: _, _, _, h, _, _ => by simp at h
  | _ :: _, [], _, _, h, _, _ => by simp at h
  | k :: ks, v :: vs, lon, p, hl, ha, hv => by
    have e : lonM l (k :: ks) lon (p, false) = lonM l ks (lonStep l (lon, p, false) k).1 (lonStep l (lon, p, false) k).2 := rfl
    have hn := nextM_at (most := 4096) ha.head (hv v (by simp)).1
    have hs : lonStep l (lon, p, false) k = (lon.set k v, p + 1, false) := by
      unfold lonStep
      dsimp only
      rw [hn]
      have : (v == 0) = false := beq_eq_false_iff_ne.2 (hv v (by simp)).2
      simp [this]
    rw [e, hs]
    rw [lonM_at l ks vs (lon.set k v) (p + 1) (by simpa using hl) ha.tail (fun w hw => hv w (by simp [hw]))]
    rw [fillL, List.length_cons]
    congr 2
    omega
theorem bits_uses (l : List Int) (hl : l.length = 8) (h0 : ∀ v ∈ l, 0 ≤ v) : (bitsL (usesB l 8)).length = ((usesK l 8).map Prod.snd).length := by
  obtain ⟨h1, _⟩ := uses_fill l hl h0 8 (Nat.le_refl _)
  rw [bitsL_N (n := 8) (by have := usesB_lt l 8; omega) (by decide), h1]
  simp
theorem usesK_in (l : List Int) (m : Int) (hl : ∀ v ∈ l, v ≤ m) : ∀ k, k ≤ l.length → ∀ v ∈ (usesK l k).map Prod.snd, v ≤ m ∧ 0 < v
  | 0, _, v, hv => by simp [usesK] at hv
  | k + 1, hk, v, hv => by
    rw [usesK, List.map_append] at hv
    rcases List.mem_append.1 hv with hv | hv
    · exact usesK_in l m hl k (by omega) v hv
    · split at hv
      · rename_i h0
        simp at hv
        subst hv
        rw [List.getElem?_eq_getElem (by omega)] at *
        refine ⟨?_, ?_⟩
        · exact hl _ (List.getElem_mem _)
        · rw [List.getD_eq_getElem?_getD, List.getElem?_eq_getElem (by omega)] at h0
          exact h0
      · cases hv
/-- A task's words. -/
theorem taskM_at {l : List Int} {t : Tsk} {p : Nat} (h : At l p (wordsT t)) (hp : t.per ≤ 4096) (hd : t.ded ≤ 4096) (hc : t.cost ≤ 4096) (h8 : t.lon.length = 8) (hl : ∀ v ∈ t.lon, 0 ≤ v ∧ v ≤ 4096) : taskM l (p, false) = (t, p + (wordsT t).length, false) := by
  have n1 := nextM_at (most := 4096) h.head hp
  have n2 := nextM_at (most := 4096) h.tail.head hd
  have n3 := nextM_at (most := 4096) h.tail.tail.head hc
  have hB := usesB_lt t.lon 8
  have n4 := nextM_at (most := 255) h.tail.tail.tail.head (by omega)
  have n5 := lonM_at l (bitsL (usesB t.lon 8)) ((usesK t.lon 8).map Prod.snd) (List.replicate 8 0) _ (bits_uses t.lon h8 (fun v hv => (hl v hv).1)).symm h.tail.tail.tail.tail (fun v hv => by
    have := usesK_in t.lon 4096 (fun v hv => (hl v hv).2) 8 (by omega) v hv
    omega)
  rw [uses_all t.lon h8 (fun v hv => (hl v hv).1)] at n5
  unfold taskM
  simp only [n1, n2, n3, n4, Int.toNat_natCast, n5]
  unfold wordsT
  simp only [List.length_cons]
  congr 2
  omega
theorem qsM_at {l : List Int} {p : Nat} : ∀ (qs : List Que) , At l p (qs.flatMap queInts) → (∀ q ∈ qs, q.cap ≤ 16 ∧ q.pol ≤ 3) → ∀ n, n ≤ qs.length → qsM l (p, false) n = (qs.take n, p + 2 * n, false)
  | qs, h, hq, 0, _ => by simp [qsM]
  | qs, h, hq, n + 1, hn => by
    have ih := qsM_at qs h hq n (by omega)
    have hlt : n < qs.length := by omega
    have hw : qs.flatMap queInts = (qs.take n).flatMap queInts ++ ([qs[n].cap, qs[n].pol] ++ (qs.drop (n + 1)).flatMap queInts) := by
      conv => lhs; rw [← List.take_append_drop n qs, List.drop_eq_getElem_cons hlt]
      rw [List.flatMap_append, List.flatMap_cons]
      rfl
    have hlen : ((qs.take n).flatMap queInts).length = 2 * n := by
      have : ∀ (m : List Que), (m.flatMap queInts).length = 2 * m.length := fun m => by
        induction m with
        | nil => rfl
        | cons a m ih => rw [List.flatMap_cons, List.length_append, ih]; simp [queInts]; omega
      rw [this, List.length_take]
      omega
    rw [hw] at h
    have h2 := h.right.left
    rw [hlen] at h2
    have hb := hq _ (List.getElem_mem hlt)
    have n1 := nextM_at (most := 16) h2.head hb.1
    have n2 := nextM_at (most := 3) h2.tail.head hb.2
    rw [qsM]
    simp only [ih, n1, n2]
    rw [List.take_succ_eq_append_getElem hlt]
    congr 2
theorem modeM_at {l : List Int} {m : Mdd} {p : Nat} (h : At l p (wordsM m)) (hs : m.set ≤ 65535) (hn : m.qs.length ≤ 4) (hq : ∀ q ∈ m.qs, q.cap ≤ 16 ∧ q.pol ≤ 3) : modeM l (p, false) = (m, p + (wordsM m).length, false) := by
  have n1 := nextM_at (most := 65535) h.head (by omega)
  have n2 := nextM_at (most := 4) h.tail.head (by omega)
  have n3 := qsM_at m.qs h.tail.tail hq m.qs.length (Nat.le_refl _)
  rw [List.take_length] at n3
  unfold modeM
  simp only [n1, n2, Int.toNat_natCast, n3]
  have : (wordsM m).length = 2 + 2 * m.qs.length := wordsM_len m
  rw [this]
  congr 2
  omega
theorem mapM4_at {l : List Int} {p : Nat} {mp : List Int} (h : At l p mp) (h4 : mp.length = 4) (hm : ∀ v ∈ mp, v ≤ 4) : ∀ n, n ≤ 4 → mapM4 l (p, false) n = (mp.take n ++ List.replicate (4 - n) 0, p + n, false)
  | 0, _ => by simp [mapM4]
  | n + 1, hn => by
    have ih := mapM4_at h h4 hm n (by omega)
    have hlt : n < mp.length := by omega
    have hat : l[p + n]? = some mp[n] := by rw [h n hlt, List.getElem?_eq_getElem hlt]
    have n1 := nextM_at (most := 4) hat (hm _ (List.getElem_mem hlt))
    rw [mapM4]
    simp only [ih, n1]
    rw [List.take_succ_eq_append_getElem hlt, List.set_append_right _ _ (by rw [List.length_take]; omega)]
    have e : n - (mp.take n).length = 0 := by rw [List.length_take]; omega
    have e2 : 4 - n = (4 - (n + 1)) + 1 := by omega
    rw [e, e2, List.replicate_succ, List.set_cons_zero, List.append_assoc]
    rfl
theorem offM_at (l : List Int) : ∀ (ks : List Nat) (vs offs : List Int) (p : Nat), vs.length = ks.length → At l p vs → (∀ v ∈ vs, v ≤ 16384) → offM l ks offs (p, false) = (fillL ks vs offs, p + vs.length, false)
  | [], [], offs, p, _, _, _ => rfl
  | [], _ :: _, _, _, h, _, _ => by simp at h
  | _ :: _, [], _, _, h, _, _ => by simp at h
  | k :: ks, v :: vs, offs, p, hl, ha, hv => by
    have e : offM l (k :: ks) offs (p, false) = offM l ks (offStep l (offs, p, false) k).1 (offStep l (offs, p, false) k).2 := rfl
    have hn := nextM_at (most := 16384) ha.head (hv v (by simp))
    have hs : offStep l (offs, p, false) k = (offs.set k v, p + 1, false) := by
      unfold offStep
      dsimp only
      rw [hn]
    rw [e, hs, offM_at l ks vs (offs.set k v) (p + 1) (by simpa using hl) ha.tail (fun w hw => hv w (by simp [hw]))]
    rw [fillL, List.length_cons]
    congr 2
    omega
/-- A row that is zero elsewhere is what is filled in. -/
theorem fillL_back (ks : List Nat) (offs : List Int) (n : Nat) (hn : offs.length = n) (hk : ks.Nodup) (h : ∀ k ∈ ks, k < n) (hz : ∀ k, k < n → k ∉ ks → offs.getD k 0 = 0) : fillL ks (ks.map (fun k => offs.getD k 0)) (List.replicate n 0) = offs := by
  have hg := fillL_gets ks (ks.map (fun k => offs.getD k 0)) (List.replicate n 0) hk (by simp) (fun k hk' => by rw [List.length_replicate]; exact h k hk')
  have hlen : (fillL ks (ks.map (fun k => offs.getD k 0)) (List.replicate n 0)).length = n := by rw [fillL_len]; simp
  refine List.ext_getElem? fun k => ?_
  by_cases hkn : k < n
  · have e1 : (fillL ks (ks.map (fun k => offs.getD k 0)) (List.replicate n 0)).getD k 0 = offs.getD k 0 := by
      by_cases hm : k ∈ ks
      · exact List.map_inj_left.1 hg k hm
      · rw [fillL_other ks _ _ k hm, hz k hkn hm, List.getD_eq_getElem?_getD, List.getElem?_replicate, if_pos hkn]
        rfl
    rw [List.getD_eq_getElem?_getD, List.getD_eq_getElem?_getD, List.getElem?_eq_getElem (by omega), List.getElem?_eq_getElem (by omega)] at e1
    rw [List.getElem?_eq_getElem (by omega), List.getElem?_eq_getElem (by omega)]
    exact congrArg some e1
  · rw [List.getElem?_eq_none (by omega), List.getElem?_eq_none (by omega)]
theorem edgeM_at {l : List Int} {x : Img} {e : Edg} {p : Nat} (h : At l p (wordsE x e)) (hf : e.frm ≤ 8) (ht : e.to ≤ 8) (hp : e.prot ≤ 3) (h4 : e.mp.length = 4) (hm : ∀ v ∈ e.mp, v ≤ 4) (h16 : e.offs.length = 16) (ho : ∀ v ∈ e.offs, v ≤ 16384) (hfr : ∀ k ∈ bitsL (freshN x e), k < 16)
    (hz : ∀ k, k < 16 → ¬ (e.prot = 3 ∧ k ∈ bitsL (freshN x e)) → e.offs.getD k 0 = 0) : edgeM l x (p, false) = (e, p + (wordsE x e).length, false) := by
  have n1 := nextM_at (most := 8) h.head hf
  have n2 := nextM_at (most := 8) h.tail.head ht
  have n3 := nextM_at (most := 3) h.tail.tail.head hp
  have h5 := h.tail.tail.tail
  have n4 := mapM4_at h5.left h4 hm 4 (Nat.le_refl _)
  rw [List.take_of_length_le (by omega), Nat.sub_self, List.replicate_zero, List.append_nil] at n4
  have h6 := h5.right
  rw [h4] at h6
  unfold edgeM
  simp only [n1, n2, n3, n4]
  by_cases hc : e.prot = 3
  · rw [if_pos hc] at h6
    have hfe : freshN x ⟨e.frm, e.to, e.prot, List.replicate 16 0, e.mp⟩ = freshN x e := rfl
    have n5 := offM_at l (bitsL (freshN x e)) ((bitsL (freshN x e)).map (fun k => e.offs.getD k 0)) (List.replicate 16 0) _ (by simp) h6 (fun v hv => by
      obtain ⟨k, hk, rfl⟩ := List.mem_map.1 hv
      rw [List.getD_eq_getElem?_getD, List.getElem?_eq_getElem (by have := hfr k hk; omega)]
      exact ho _ (List.getElem_mem _))
    rw [fillL_back _ e.offs 16 h16 (bitsL_nodup _) hfr (fun k hk hn => hz k hk (fun hh => hn hh.2))] at n5
    rw [if_pos hc, hfe, n5]
    unfold wordsE
    rw [if_pos hc]
    simp only [List.length_cons, List.length_append, h4]
    congr 2
    omega
  · rw [if_neg hc]
    have : List.replicate 16 0 = e.offs := by
      refine List.ext_getElem? fun k => ?_
      by_cases hk : k < 16
      · have := hz k hk (fun hh => hc hh.1)
        rw [List.getD_eq_getElem?_getD, List.getElem?_eq_getElem (by omega)] at this
        rw [List.getElem?_replicate, if_pos hk, List.getElem?_eq_getElem (by omega)]
        exact congrArg some this.symm
      · rw [List.getElem?_eq_none (by simp; omega), List.getElem?_eq_none (by omega)]
    rw [this]
    unfold wordsE
    rw [if_neg hc]
    simp only [List.length_cons, List.length_append, List.length_nil, h4]
end Go.Proofs.YtfgjcjpemlgnmaaDoor

namespace Go.Proofs.YtfgjcjpemlgnmaaDoor

theorem lonOk_geR {cost res : Int} : ∀ (l : List Int) (r : Nat), lonOk cost res r l = true → ∀ n ∈ l, 0 ≤ n ∧ n ≤ max 0 cost
  | [], _, _, n, hn => by cases hn
  | a :: l, r, h, n, hn => by
    rw [lonOk, Bool.and_eq_true] at h
    have h1 := inR_iff.1 h.1
    rcases List.mem_cons.1 hn with rfl | hm
    · refine ⟨h1.1, Int.le_trans h1.2 ?_⟩
      split <;> omega
    · exact lonOk_geR l (r + 1) h.2 n hm
theorem mapsOk_geR {frm tt : Nat} : ∀ (l : List Int) (k : Nat) (seen : List Int), mapsOk frm tt k seen l = true → ∀ n ∈ l, 0 ≤ n ∧ n ≤ tt
  | [], _, _, _, n, hn => by cases hn
  | a :: l, k, seen, h, n, hn => by
    rw [mapsOk, Bool.and_eq_true, Bool.and_eq_true] at h
    rcases List.mem_cons.1 hn with rfl | hm
    · exact inR_iff.1 h.1.1
    · exact mapsOk_geR l _ _ h.2 n hm
theorem offsOk_geR {prot : Int} {a b : Nat} : ∀ (l : List Int) (k : Nat), offsOk prot a b k l = true → ∀ n ∈ l, 0 ≤ n ∧ n ≤ 16384
  | [], _, _, n, hn => by cases hn
  | c :: l, k, h, n, hn => by
    rw [offsOk, Bool.and_eq_true, Bool.and_eq_true] at h
    rcases List.mem_cons.1 hn with rfl | hm
    · exact inR_iff.1 h.1.1
    · exact offsOk_geR l _ h.2 n hm
theorem RightI.taskInR {x : Img} (h : RightI x) {t : Tsk} (ht : t ∈ x.tasks) : (1 ≤ t.per ∧ t.per ≤ 4096) ∧ (1 ≤ t.ded ∧ t.ded ≤ t.per) ∧ (1 ≤ t.cost ∧ t.cost ≤ t.ded) ∧ ∀ n ∈ t.lon, 0 ≤ n ∧ n ≤ 4096 := by
  have := h.task t ht
  unfold tskOk at this
  simp only [Bool.and_eq_true, inR_iff] at this
  obtain ⟨⟨⟨a, b⟩, c⟩, d⟩ := this
  exact ⟨a, b, c, fun n hn => by have := lonOk_geR _ _ d n hn; omega⟩
theorem tsM_at {l : List Int} {p : Nat} : ∀ (ts : List Tsk), At l p (ts.flatMap wordsT) → (∀ t ∈ ts, t.per ≤ 4096 ∧ t.ded ≤ 4096 ∧ t.cost ≤ 4096 ∧ t.lon.length = 8 ∧ ∀ v ∈ t.lon, 0 ≤ v ∧ v ≤ 4096) → ∀ n, n ≤ ts.length → tsM l (p, false) n = (ts.take n, p + ((ts.take n).flatMap wordsT).length, false)
  | ts, h, hq, 0, _ => by simp [tsM]
  | ts, h, hq, n + 1, hn => by
    have ih := tsM_at ts h hq n (by omega)
    have hlt : n < ts.length := by omega
    have hw : ts.flatMap wordsT = (ts.take n).flatMap wordsT ++ (wordsT ts[n] ++ (ts.drop (n + 1)).flatMap wordsT) := by
      conv => lhs; rw [← List.take_append_drop n ts, List.drop_eq_getElem_cons hlt]
      rw [List.flatMap_append, List.flatMap_cons]
    rw [hw] at h
    have hb := hq _ (List.getElem_mem hlt)
    have n1 := taskM_at h.right.left hb.1 hb.2.1 hb.2.2.1 hb.2.2.2.1 hb.2.2.2.2
    rw [tsM]
    simp only [ih, n1]
    rw [List.take_succ_eq_append_getElem hlt, List.flatMap_append, List.length_append]
    simp [Nat.add_assoc]
theorem msM_at {l : List Int} {p : Nat} : ∀ (ms : List Mdd), At l p (ms.flatMap wordsM) → (∀ m ∈ ms, m.set ≤ 65535 ∧ m.qs.length ≤ 4 ∧ ∀ q ∈ m.qs, q.cap ≤ 16 ∧ q.pol ≤ 3) → ∀ n, n ≤ ms.length → msM l (p, false) n = (ms.take n, p + ((ms.take n).flatMap wordsM).length, false)
  | ms, h, hq, 0, _ => by simp [msM]
  | ms, h, hq, n + 1, hn => by
    have ih := msM_at ms h hq n (by omega)
    have hlt : n < ms.length := by omega
    have hw : ms.flatMap wordsM = (ms.take n).flatMap wordsM ++ (wordsM ms[n] ++ (ms.drop (n + 1)).flatMap wordsM) := by
      conv => lhs; rw [← List.take_append_drop n ms, List.drop_eq_getElem_cons hlt]
      rw [List.flatMap_append, List.flatMap_cons]
    rw [hw] at h
    have hb := hq _ (List.getElem_mem hlt)
    have n1 := modeM_at h.right.left hb.1 hb.2.1 hb.2.2
    rw [msM]
    simp only [ih, n1]
    rw [List.take_succ_eq_append_getElem hlt, List.flatMap_append, List.length_append]
    simp [Nat.add_assoc]
/-- What is asked of an edge that is read. -/
structure EdgIn (x : Img) (e : Edg) : Prop where
  frm : e.frm ≤ 8
  to : e.to ≤ 8
  prot : e.prot ≤ 3
  mp4 : e.mp.length = 4
  mp : ∀ v ∈ e.mp, v ≤ 4
  o16 : e.offs.length = 16
  offs : ∀ v ∈ e.offs, v ≤ 16384
  zero : ∀ k, k < 16 → ¬ (e.prot = 3 ∧ k ∈ bitsL (freshN x e)) → e.offs.getD k 0 = 0
theorem esM_at {l : List Int} {x : Img} {p : Nat} (hx : ∀ m ∈ x.modes, m.set < 65536) : ∀ (es : List Edg), At l p (es.flatMap (wordsE x)) → (∀ e ∈ es, EdgIn x e) → ∀ n, n ≤ es.length → esM l x (p, false) n = (es.take n, p + ((es.take n).flatMap (wordsE x)).length, false)
  | es, h, hq, 0, _ => by simp [esM]
  | es, h, hq, n + 1, hn => by
    have ih := esM_at hx es h hq n (by omega)
    have hlt : n < es.length := by omega
    have hw : es.flatMap (wordsE x) = (es.take n).flatMap (wordsE x) ++ (wordsE x es[n] ++ (es.drop (n + 1)).flatMap (wordsE x)) := by
      conv => lhs; rw [← List.take_append_drop n es, List.drop_eq_getElem_cons hlt]
      rw [List.flatMap_append, List.flatMap_cons]
    rw [hw] at h
    have hb := hq _ (List.getElem_mem hlt)
    have h2 := h.right.left
    rw [← wordsE_modes { x with edges := es.take n } x rfl] at h2
    have n1 := edgeM_at (x := { x with edges := es.take n }) h2 hb.frm hb.to hb.prot hb.mp4 hb.mp hb.o16 hb.offs (fun k hk => fresh16 hx _ k hk) hb.zero
    rw [wordsE_modes { x with edges := es.take n } x rfl] at n1
    rw [esM]
    simp only [ih, n1]
    rw [List.take_succ_eq_append_getElem hlt, List.flatMap_append, List.length_append]
    simp [Nat.add_assoc]
theorem RightI.set16 {x : Img} (h : RightI x) : ∀ m ∈ x.modes, m.set < 65536 := fun m hm => by
  have h1 := (h.mode m hm).1
  have h2 : m.set ≤ allSet x.tasks.length := by rw [← h1]; exact Nat.left_le_or
  have h3 : allSet x.tasks.length ≤ allSet 16 := by
    unfold allSet
    have := Nat.pow_le_pow_right (show 0 < 2 by decide) h.nt.2
    omega
  have : allSet 16 = 65535 := rfl
  omega
theorem offsOk_at {prot : Int} {a b : Nat} : ∀ (l : List Int) (k : Nat), offsOk prot a b k l = true → ∀ j, j < l.length → l.getD j 0 = 0 ∨ (prot = 3 ∧ b.testBit (k + j) = true ∧ a.testBit (k + j) = false)
  | [], _, _, j, hj => absurd hj (by simp)
  | c :: l, k, h, j, hj => by
    rw [offsOk, Bool.and_eq_true, Bool.and_eq_true] at h
    cases j with
    | zero =>
      have := h.1.2
      simp only [Bool.or_eq_true, beq_iff_eq, Bool.and_eq_true, decide_eq_true_eq, Bool.not_eq_true'] at this
      rcases this with h0 | ⟨⟨h1, h2⟩, h3⟩
      · exact .inl h0
      · exact .inr ⟨h1, h2, h3⟩
    | succ j =>
      have := offsOk_at l (k + 1) h.2 j (by simpa using hj)
      rw [show k + 1 + j = k + (j + 1) by omega] at this
      exact this
theorem RightI.edgIn {x : Img} (h : RightI x) (ho : x.Ok) {k : Nat} (hk : k < x.edges.length) : EdgIn x x.edges[k] := by
  have he := h.edge k hk
  have hm16 := h.set16
  have hnm := h.nm
  have hmem := List.getElem_mem hk
  generalize x.edges[k] = e at *
  unfold edgOk at he
  simp only [Bool.and_eq_true, inR_iff] at he
  obtain ⟨⟨⟨⟨⟨⟨h1, h2⟩, _⟩, h3⟩, _⟩, h4⟩, h5⟩ := he
  have e1 : setOf10 x e.to = (x.modes.getD e.to.toNat ⟨0, []⟩).set := by unfold setOf10; rw [if_pos (by omega)]
  have e2 : setOf10 x e.frm = (x.modes.getD e.frm.toNat ⟨0, []⟩).set := by unfold setOf10; rw [if_pos (by omega)]
  refine ⟨by omega, by omega, h3.2, ho.mp e hmem, fun v hv => ?_, ho.offs e hmem, fun v hv => (offsOk_geR _ _ h5 v hv).2, fun j hj hn => ?_⟩
  · have h6 := (mapsOk_geR _ _ _ h4 v hv).2
    have h7 : (x.modes.getD e.to.toNat ⟨0, []⟩).qs.length ≤ 4 := by
      rw [List.getD_eq_getElem?_getD, List.getElem?_eq_getElem (by omega)]
      have := (h.mode _ (List.getElem_mem (show e.to.toNat < x.modes.length by omega))).2
      unfold quesOk at this
      rw [Bool.and_eq_true, decide_eq_true_eq] at this
      exact this.1
    omega
  · have h6 := offsOk_at _ _ h5 j (by rw [ho.offs e hmem]; exact hj)
    rcases h6 with h6 | ⟨g1, g2, g3⟩
    · exact h6
    · exfalso
      refine hn ⟨g1, ?_⟩
      rw [Nat.zero_add] at g2 g3
      unfold bitsL
      rw [List.mem_filter, List.mem_range]
      refine ⟨by omega, ?_⟩
      unfold freshN
      rw [minusN_testBit _ _ _ (setOf10_lt x _ ho) (setOf10_lt x _ ho), e1, e2, g2, g3]
      rfl
/-- A right image's words are read as it. -/
theorem right_dec {x : Img} (h : RightI x) (ho : x.Ok) : decM (wordsI x) = (x, (wordsI x).length, false) := by
  have ha := At.self (wordsI x)
  have hh : At (wordsI x) 0 (headI x) := ha.left
  have hr := ha.right
  have b1 := hr.left
  have b2 := hr.right.left
  have b3 := hr.right.right
  have n0 := nextM_at (most := 1380273457) hh.head (Int.le_refl _)
  have n1 := nextM_at (most := 8) hh.tail.head h.res.2
  have n2 := nextM_at (most := 16) hh.tail.tail.head (by have := h.nt.2; omega)
  have n3 := nextM_at (most := 8) hh.tail.tail.tail.head (by have := h.nm.2; omega)
  have n4 := nextM_at (most := 24) hh.tail.tail.tail.tail.head (by have := h.ne; omega)
  have hl5 : (headI x).length = 5 := rfl
  rw [hl5, Nat.zero_add] at b1 b2 b3
  have n5 := tsM_at x.tasks b1 (fun t ht => by
    have h2 := h.taskInR ht
    exact ⟨h2.1.2, by omega, by omega, ho.lon t ht, h2.2.2.2⟩) x.tasks.length (Nat.le_refl _)
  rw [List.take_length] at n5
  have n6 := msM_at x.modes b2 (fun m hm => by
    have h2 := (h.mode m hm).2
    unfold quesOk at h2
    rw [Bool.and_eq_true, decide_eq_true_eq, List.all_eq_true] at h2
    refine ⟨by have := h.set16 m hm; omega, h2.1, fun q hq => ?_⟩
    have := h2.2 q hq
    unfold queOk at this
    rw [Bool.and_eq_true, inR_iff, inR_iff] at this
    exact ⟨this.1.2, this.2.2⟩) x.modes.length (Nat.le_refl _)
  rw [List.take_length] at n6
  have hm16 : ∀ m ∈ (⟨x.res, x.tasks, x.modes, []⟩ : Img).modes, m.set < 65536 := h.set16
  have n7 := esM_at (x := ⟨x.res, x.tasks, x.modes, []⟩) hm16 x.edges b3 (fun e he => by
    obtain ⟨k, hk, rfl⟩ := List.getElem_of_mem he
    have := h.edgIn ho hk
    exact ⟨this.frm, this.to, this.prot, this.mp4, this.mp, this.o16, this.offs, this.zero⟩) x.edges.length (Nat.le_refl _)
  rw [List.take_length] at n7
  unfold decM
  simp only [n0, bne_self_eq_false, Nat.zero_add]
  simp only [Nat.zero_add] at n1 n2 n3 n4
  simp only [n1, n2, n3, n4, Int.toNat_natCast]
  simp only [n5, n6, n7]
  have hlen : (wordsI x).length = 5 + (x.tasks.flatMap wordsT).length + (x.modes.flatMap wordsM).length + (x.edges.flatMap (wordsE x)).length := by
    unfold wordsI
    simp only [List.length_append, hl5]
    omega
  rw [hlen]
  rfl
theorem progD_right {x : Img} (h : (chkImg x).2 = 0) (ho : x.Ok) : progD (wordsI x) = some x := by
  unfold progD
  rw [right_dec (right_of h) ho]
  dsimp only
  rw [if_neg (by simp), if_pos h]
theorem progD_some {l : List Int} (hl : ∀ n ∈ l, 0 ≤ n ∧ n < 4294967296) {x : Img} (h : progD l = some x) : (chkImg x).2 = 0 ∧ x.Ok ∧ l = wordsI x := by
  obtain ⟨h1, h2, _⟩ := decM_rd l hl
  unfold progD at h
  split at h
  · cases h
  · rename_i hb
    split at h
    · rename_i hc
      cases h
      have hb2 : (decM l).2.2 = false := by cases hx : (decM l).2.2 with | false => rfl | true => exact absurd (.inl hx) hb
      have hb3 : (decM l).2.1 = l.length := by
        by_cases hx : (decM l).2.1 = l.length
        · exact hx
        · exact absurd (.inr hx) hb
      obtain ⟨_, h4⟩ := h1 hb2
      rw [hb3, List.take_length] at h4
      exact ⟨hc, h2, h4⟩
    · cases h
end Go.Proofs.YtfgjcjpemlgnmaaDoor

namespace Go.Proofs.YtfgjcjpemlgnmaaDoor

def atD (l : List Int) (i : Nat) : Int := l.getD i 0
/-- Each place of ks gets the next number. -/
def fillD (l : List Int) (p : List Int × Nat) (k : Nat) : List Int × Nat := (p.1.set k (atD l p.2), p.2 + 1)
def taskD (l : List Int) (i : Nat) : Tsk × Nat :=
  let r := (List.range 8).foldl (fun p k => if (atD l (i + 3)).toNat.testBit k = true then fillD l p k else p) (List.replicate 8 0, i + 4)
  (⟨atD l i, atD l (i + 1), atD l (i + 2), r.1⟩, r.2)
def qsD (l : List Int) (i : Nat) : Nat → List Que
  | 0 => []
  | n + 1 => qsD l i n ++ [⟨atD l (i + 2 * n), atD l (i + 2 * n + 1)⟩]
def modeD (l : List Int) (i : Nat) : Mdd × Nat := (⟨(atD l i).toNat, qsD l (i + 2) (min (atD l (i + 1)).toNat 5)⟩, i + 2 + 2 * min (atD l (i + 1)).toNat 5)
def edgeD (l : List Int) (x : Img) (i : Nat) : Edg × Nat :=
  let e : Edg := ⟨atD l i, atD l (i + 1), atD l (i + 2), List.replicate 16 0, [atD l (i + 3), atD l (i + 4), atD l (i + 5), atD l (i + 6)]⟩
  if e.prot = 3 then
    let r := (List.range 16).foldl (fun p k => if ((setOf10 x e.to).testBit k && !(setOf10 x e.frm).testBit k) = true then fillD l p k else p) (List.replicate 16 0, i + 7)
    ({ e with offs := r.1 }, r.2)
  else (e, i + 7)
def tsD (l : List Int) (i : Nat) : Nat → List Tsk × Nat
  | 0 => ([], i)
  | n + 1 => let p := tsD l i n; let r := taskD l p.2; (p.1 ++ [r.1], r.2)
def msD (l : List Int) (i : Nat) : Nat → List Mdd × Nat
  | 0 => ([], i)
  | n + 1 => let p := msD l i n; let r := modeD l p.2; (p.1 ++ [r.1], r.2)
def esD (l : List Int) (x : Img) (i : Nat) : Nat → List Edg × Nat
  | 0 => ([], i)
  | n + 1 => let p := esD l x i n; let r := edgeD l { x with edges := p.1 } p.2; (p.1 ++ [r.1], r.2)
def decD (l : List Int) : Img :=
  let t := tsD l 5 (min (atD l 2).toNat 17)
  let m := msD l t.2 (min (atD l 3).toNat 9)
  let e := esD l ⟨atD l 1, t.1, m.1, []⟩ m.2 (min (atD l 4).toNat 25)
  ⟨atD l 1, t.1, m.1, e.1⟩
/-- The image of words, by the document. -/
def docD (l : List Int) : Option Img := if (chkImg (decD l)).2 = 0 then (if wordsI (decD l) = l then some (decD l) else none) else none

theorem atD_at {l : List Int} {p : Nat} {v : Int} (h : l[p]? = some v) : atD l p = v := by
  unfold atD
  rw [List.getD_eq_getElem?_getD, h]
  rfl
theorem fillD_at (l : List Int) : ∀ (ks : List Nat) (vs lon : List Int) (p : Nat), vs.length = ks.length → At l p vs → ks.foldl (fillD l) (lon, p) = (fillL ks vs lon, p + vs.length)
  | [], [], lon, p, _, _ => rfl
  | [], _ :: _, _, _, h, _ => by simp at h
  | _ :: _, [], _, _, h, _ => by simp at h
  | k :: ks, v :: vs, lon, p, hl, ha => by
    have hs : fillD l (lon, p) k = (lon.set k v, p + 1) := by
      unfold fillD
      dsimp only
      rw [atD_at ha.head]
    rw [List.foldl_cons, hs, fillD_at l ks vs (lon.set k v) (p + 1) (by simpa using hl) ha.tail, fillL, List.length_cons]
    congr 1
    omega
theorem fold_if {β : Type} (f : β → Nat → β) (c : Nat → Bool) (n : Nat) (b : β) : (List.range n).foldl (fun p k => if c k = true then f p k else p) b = ((List.range n).filter c).foldl f b := List.foldl_filter.symm
theorem taskD_at {l : List Int} {t : Tsk} {p : Nat} (h : At l p (wordsT t)) (h8 : t.lon.length = 8) (hl : ∀ v ∈ t.lon, 0 ≤ v) : taskD l p = (t, p + (wordsT t).length) := by
  have n1 := atD_at h.head
  have n2 := atD_at h.tail.head
  have n3 := atD_at h.tail.tail.head
  have n4 := atD_at h.tail.tail.tail.head
  have hB := usesB_lt t.lon 8
  have hbits : (List.range 8).filter (fun k => (usesB t.lon 8).testBit k) = bitsL (usesB t.lon 8) := (bitsL_N (n := 8) (by omega) (by decide)).symm
  have n5 := fillD_at l (bitsL (usesB t.lon 8)) ((usesK t.lon 8).map Prod.snd) (List.replicate 8 0) (p + 1 + 1 + 1 + 1) (bits_uses t.lon h8 hl).symm h.tail.tail.tail.tail
  rw [uses_all t.lon h8 hl] at n5
  unfold taskD
  dsimp only
  rw [n1, show p + 1 = p + 1 from rfl, n2, show p + 2 = p + 1 + 1 from rfl, n3, show p + 3 = p + 1 + 1 + 1 from rfl, n4, Int.toNat_natCast, fold_if, hbits, show p + 4 = p + 1 + 1 + 1 + 1 from rfl, n5]
  unfold wordsT
  simp only [List.length_cons]
  congr 1
  omega
theorem qsD_at {l : List Int} {p : Nat} (qs : List Que) (h : At l p (qs.flatMap queInts)) : ∀ n, n ≤ qs.length → qsD l p n = qs.take n
  | 0, _ => by simp [qsD]
  | n + 1, hn => by
    have ih := qsD_at qs h n (by omega)
    have hlt : n < qs.length := by omega
    have hw : qs.flatMap queInts = (qs.take n).flatMap queInts ++ ([qs[n].cap, qs[n].pol] ++ (qs.drop (n + 1)).flatMap queInts) := by
      conv => lhs; rw [← List.take_append_drop n qs, List.drop_eq_getElem_cons hlt]
      rw [List.flatMap_append, List.flatMap_cons]
      rfl
    have hlen : ((qs.take n).flatMap queInts).length = 2 * n := by
      have : ∀ (m : List Que), (m.flatMap queInts).length = 2 * m.length := fun m => by
        induction m with
        | nil => rfl
        | cons a m ih => rw [List.flatMap_cons, List.length_append, ih]; simp [queInts]; omega
      rw [this, List.length_take]
      omega
    rw [hw] at h
    have h2 := h.right.left
    rw [hlen] at h2
    have n1 := atD_at h2.head
    have n2 := atD_at h2.tail.head
    rw [qsD, ih, n1, n2, List.take_succ_eq_append_getElem hlt]
theorem modeD_at {l : List Int} {m : Mdd} {p : Nat} (h : At l p (wordsM m)) (hn : m.qs.length ≤ 4) : modeD l p = (m, p + (wordsM m).length) := by
  have n1 := atD_at h.head
  have n2 := atD_at h.tail.head
  have n3 := qsD_at m.qs h.tail.tail m.qs.length (Nat.le_refl _)
  rw [List.take_length] at n3
  unfold modeD
  rw [n1, n2, Int.toNat_natCast, Int.toNat_natCast, Nat.min_eq_left (by omega), show p + 2 = p + 1 + 1 from rfl, n3, wordsM_len]
  congr 1
  omega
theorem edgeD_at {l : List Int} {x : Img} (hx : x.Ok) (hx16 : ∀ m ∈ x.modes, m.set < 65536) {e : Edg} {p : Nat} (h : At l p (wordsE x e)) (he : EdgIn x e) : edgeD l x p = (e, p + (wordsE x e).length) := by
  have n1 := atD_at h.head
  have n2 := atD_at h.tail.head
  have n3 := atD_at h.tail.tail.head
  have h5 := h.tail.tail.tail
  have h4 := he.mp4
  have hm := h5.left
  have h6 := h5.right
  rw [h4] at h6
  have hmp : [atD l (p + 3), atD l (p + 4), atD l (p + 5), atD l (p + 6)] = e.mp := by
    match hq : e.mp, h4 with
    | [a, b, c, d], _ =>
      rw [hq] at hm
      rw [show p + 3 = p + 1 + 1 + 1 from rfl, show p + 4 = p + 1 + 1 + 1 + 1 from rfl, show p + 5 = p + 1 + 1 + 1 + 1 + 1 from rfl, show p + 6 = p + 1 + 1 + 1 + 1 + 1 + 1 from rfl, atD_at hm.head, atD_at hm.tail.head, atD_at hm.tail.tail.head, atD_at hm.tail.tail.tail.head]
  unfold edgeD
  dsimp only
  rw [n1, n2, show p + 2 = p + 1 + 1 from rfl, n3, hmp]
  by_cases hc : e.prot = 3
  · rw [if_pos hc] at h6
    rw [if_pos hc]
    have hbits : (List.range 16).filter (fun k => (setOf10 x e.to).testBit k && !(setOf10 x e.frm).testBit k) = bitsL (freshN x e) := by
      have e1 : (fun k => (setOf10 x e.to).testBit k && !(setOf10 x e.frm).testBit k) = (fun k => (freshN x e).testBit k) := by
        funext k
        unfold freshN
        rw [minusN_testBit _ _ _ (setOf10_lt x _ hx) (setOf10_lt x _ hx)]
      rw [e1]
      have hlt : freshN x e < 2 ^ 16 := by
        have hs : setOf10 x e.to < 65536 := by
          unfold setOf10
          split
          · rename_i hm
            rw [List.getD_eq_getElem?_getD, List.getElem?_eq_getElem (by omega)]
            exact hx16 _ (List.getElem_mem _)
          · decide
        exact Nat.lt_of_le_of_lt Nat.and_le_left hs
      exact (bitsL_N (n := 16) hlt (by decide)).symm
    have n5 := fillD_at l (bitsL (freshN x e)) ((bitsL (freshN x e)).map (fun k => e.offs.getD k 0)) (List.replicate 16 0) (p + 1 + 1 + 1 + 4) (by simp) h6
    rw [fillL_back _ e.offs 16 he.o16 (bitsL_nodup _) (fun k hk => fresh16 hx16 e k hk) (fun k hk hn => he.zero k hk (fun hh => hn hh.2))] at n5
    rw [fold_if, hbits, show p + 7 = p + 1 + 1 + 1 + 4 from rfl, n5]
    unfold wordsE
    rw [if_pos hc]
    simp only [List.length_cons, List.length_append, h4]
    congr 1
    omega
  · rw [if_neg hc]
    have : List.replicate 16 0 = e.offs := by
      have h16 := he.o16
      refine List.ext_getElem? fun k => ?_
      by_cases hk : k < 16
      · have := he.zero k hk (fun hh => hc hh.1)
        rw [List.getD_eq_getElem?_getD, List.getElem?_eq_getElem (by omega)] at this
        rw [List.getElem?_replicate, if_pos hk, List.getElem?_eq_getElem (by omega)]
        exact congrArg some this.symm
      · rw [List.getElem?_eq_none (by simp; omega), List.getElem?_eq_none (by omega)]
    rw [this]
    unfold wordsE
    rw [if_neg hc]
    simp only [List.length_cons, List.length_append, List.length_nil, h4]
theorem tsD_at {l : List Int} {p : Nat} (ts : List Tsk) (h : At l p (ts.flatMap wordsT)) (hq : ∀ t ∈ ts, t.lon.length = 8 ∧ ∀ v ∈ t.lon, 0 ≤ v) : ∀ n, n ≤ ts.length → tsD l p n = (ts.take n, p + ((ts.take n).flatMap wordsT).length)
  | 0, _ => by simp [tsD]
  | n + 1, hn => by
    have ih := tsD_at ts h hq n (by omega)
    have hlt : n < ts.length := by omega
    have hw : ts.flatMap wordsT = (ts.take n).flatMap wordsT ++ (wordsT ts[n] ++ (ts.drop (n + 1)).flatMap wordsT) := by
      conv => lhs; rw [← List.take_append_drop n ts, List.drop_eq_getElem_cons hlt]
      rw [List.flatMap_append, List.flatMap_cons]
    rw [hw] at h
    have hb := hq _ (List.getElem_mem hlt)
    have n1 := taskD_at h.right.left hb.1 hb.2
    rw [tsD]
    simp only [ih, n1]
    rw [List.take_succ_eq_append_getElem hlt, List.flatMap_append, List.length_append]
    simp [Nat.add_assoc]
theorem msD_at {l : List Int} {p : Nat} (ms : List Mdd) (h : At l p (ms.flatMap wordsM)) (hq : ∀ m ∈ ms, m.qs.length ≤ 4) : ∀ n, n ≤ ms.length → msD l p n = (ms.take n, p + ((ms.take n).flatMap wordsM).length)
  | 0, _ => by simp [msD]
  | n + 1, hn => by
    have ih := msD_at ms h hq n (by omega)
    have hlt : n < ms.length := by omega
    have hw : ms.flatMap wordsM = (ms.take n).flatMap wordsM ++ (wordsM ms[n] ++ (ms.drop (n + 1)).flatMap wordsM) := by
      conv => lhs; rw [← List.take_append_drop n ms, List.drop_eq_getElem_cons hlt]
      rw [List.flatMap_append, List.flatMap_cons]
    rw [hw] at h
    have n1 := modeD_at h.right.left (hq _ (List.getElem_mem hlt))
    rw [msD]
    simp only [ih, n1]
    rw [List.take_succ_eq_append_getElem hlt, List.flatMap_append, List.length_append]
    simp [Nat.add_assoc]
theorem esD_at {l : List Int} {x : Img} {p : Nat} (hx : x.Ok) (hx16 : ∀ m ∈ x.modes, m.set < 65536) (es : List Edg) (h : At l p (es.flatMap (wordsE x))) (hes : ∀ e ∈ es, e.offs.length = 16 ∧ e.mp.length = 4) (hq : ∀ e ∈ es, EdgIn x e) : ∀ n, n ≤ es.length → esD l x p n = (es.take n, p + ((es.take n).flatMap (wordsE x)).length)
  | 0, _ => by simp [esD]
  | n + 1, hn => by
    have ih := esD_at hx hx16 es h hes hq n (by omega)
    have hlt : n < es.length := by omega
    have hw : es.flatMap (wordsE x) = (es.take n).flatMap (wordsE x) ++ (wordsE x es[n] ++ (es.drop (n + 1)).flatMap (wordsE x)) := by
      conv => lhs; rw [← List.take_append_drop n es, List.drop_eq_getElem_cons hlt]
      rw [List.flatMap_append, List.flatMap_cons]
    rw [hw] at h
    have hb := hq _ (List.getElem_mem hlt)
    have h2 := h.right.left
    rw [← wordsE_modes { x with edges := es.take n } x rfl] at h2
    have hok : ({ x with edges := es.take n } : Img).Ok := ⟨hx.lon, fun e he => (hes e (List.mem_of_mem_take he)).1, fun e he => (hes e (List.mem_of_mem_take he)).2, hx.set⟩
    have n1 := edgeD_at (x := { x with edges := es.take n }) hok hx16 h2 ⟨hb.frm, hb.to, hb.prot, hb.mp4, hb.mp, hb.o16, hb.offs, hb.zero⟩
    rw [wordsE_modes { x with edges := es.take n } x rfl] at n1
    rw [esD]
    simp only [ih, n1]
    rw [List.take_succ_eq_append_getElem hlt, List.flatMap_append, List.length_append]
    simp [Nat.add_assoc]
theorem right_decD {x : Img} (h : RightI x) (ho : x.Ok) : decD (wordsI x) = x := by
  have ha := At.self (wordsI x)
  have hh : At (wordsI x) 0 (headI x) := ha.left
  have hr := ha.right
  have b1 := hr.left
  have b2 := hr.right.left
  have b3 := hr.right.right
  have n1 := atD_at hh.tail.head
  have n2 := atD_at hh.tail.tail.head
  have n3 := atD_at hh.tail.tail.tail.head
  have n4 := atD_at hh.tail.tail.tail.tail.head
  have hl5 : (headI x).length = 5 := rfl
  rw [hl5, Nat.zero_add] at b1 b2 b3
  have n5 := tsD_at x.tasks b1 (fun t ht => ⟨ho.lon t ht, fun v hv => ((h.taskInR ht).2.2.2 v hv).1⟩) x.tasks.length (Nat.le_refl _)
  rw [List.take_length] at n5
  have n6 := msD_at x.modes b2 (fun m hm => by
    have h2 := (h.mode m hm).2
    unfold quesOk at h2
    rw [Bool.and_eq_true, decide_eq_true_eq] at h2
    exact h2.1) x.modes.length (Nat.le_refl _)
  rw [List.take_length] at n6
  have hok : (⟨x.res, x.tasks, x.modes, []⟩ : Img).Ok := ⟨ho.lon, (fun e he => by cases he), (fun e he => by cases he), ho.set⟩
  have n7 := esD_at (x := ⟨x.res, x.tasks, x.modes, []⟩) hok h.set16 x.edges b3 (fun e he => ⟨ho.offs e he, ho.mp e he⟩) (fun e he => by
    obtain ⟨k, hk, rfl⟩ := List.getElem_of_mem he
    have := h.edgIn ho hk
    exact ⟨this.frm, this.to, this.prot, this.mp4, this.mp, this.o16, this.offs, this.zero⟩) x.edges.length (Nat.le_refl _)
  rw [List.take_length] at n7
  have ht := h.nt.2
  have hm := h.nm.2
  have he := h.ne
  simp only [Nat.zero_add] at n1 n2 n3 n4
  unfold decD
  dsimp only
  rw [n1, n2, n3, n4]
  simp only [Int.toNat_natCast]
  rw [Nat.min_eq_left (show x.tasks.length ≤ 17 by omega), Nat.min_eq_left (show x.modes.length ≤ 9 by omega), Nat.min_eq_left (show x.edges.length ≤ 25 by omega), n5]
  dsimp only
  rw [n6]
  dsimp only
  rw [n7]
theorem doc_prog (l : List Int) (hl : ∀ n ∈ l, 0 ≤ n ∧ n < 4294967296) (hok : (decD l).Ok) : docD l = progD l := by
  cases hp : progD l with
  | some x =>
    obtain ⟨h1, h2, h3⟩ := progD_some hl hp
    have hd : decD l = x := by rw [h3]; exact right_decD (right_of h1) h2
    unfold docD
    rw [hd, if_pos h1, if_pos h3.symm]
  | none =>
    unfold docD
    split
    · rename_i hc
      split
      · rename_i hw
        have := progD_right hc hok
        rw [hw, hp] at this
        cases this
      · rfl
    · rfl
end Go.Proofs.YtfgjcjpemlgnmaaDoor
