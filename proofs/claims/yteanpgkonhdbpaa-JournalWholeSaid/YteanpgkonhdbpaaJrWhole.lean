/- JournalWhole, walked: whatever is added, in whichever operation the power goes. Condition: a place and a row of calls of which the law plays. -/
import Derived.Test.YteanpgkonhdbpaaJrWholeP
import Derived.Test.YteanpgkonhdbpaaJrThere
import Derived.Test.YteanpgkonhdbpaaJrLast
import Derived.Test.YteanpgkonhdbpaaRelFlow
import Derived.Deep.DeepCutAuto
import Derived.Deep.CutRange
import Derived.Deep.CutBlock
namespace Go.Proofs.Yteanpgkonhdbpaa
open Go.RowKit

/-- A call of the law. -/
structure JOp where
  kind : Int
  n : Int
  w : Nat
abbrev jopCells (o : JOp) : List Value := [.int .i64 o.kind, .int .i64 o.n, .int .u32 (o.w : Int)]
def jopRow (l : List JOp) : List Value := l.flatMap jopCells
theorem jopRow_at (l : List JOp) : ∀ (k : Nat) (hk : k < l.length) (j : Nat), j < 3 → (jopRow l)[k * 3 + j]? = (jopCells l[k])[j]? := by
  induction l with
  | nil => intro k hk; exact absurd hk (by simp)
  | cons e l ih =>
    intro k hk j hj
    rw [show jopRow (e :: l) = jopCells e ++ jopRow l from rfl]
    cases k with
    | zero => rw [List.getElem?_append_left (by simp; omega)]; simp
    | succ k =>
      rw [List.getElem?_append_right (by simp; omega)]
      have : (k + 1) * 3 + j - (jopCells e).length = k * 3 + j := by simp; omega
      rw [this]
      simpa using ih k (by simpa using hk) j hj
def kindJ (k : Int) : Int := (k.tmod 6 + 6).tmod 6
theorem kindJ_facts (k : Int) : -6 < k.tmod 6 ∧ k.tmod 6 < 6 ∧ (k.tmod 6 + 6) % 6 = kindJ k := by
  have h1 : -6 < k.tmod 6 := Int.lt_tmod_of_pos k (by decide)
  have h2 : k.tmod 6 < 6 := Int.tmod_lt_of_pos k (by decide)
  refine ⟨h1, h2, ?_⟩
  unfold kindJ
  exact (Int.tmod_eq_emod_of_nonneg (by omega)).symm
/-- Device, journal and the two rows in memory. -/
structure JMem (w wr : World) (g b1 b2 gj : Nat) (d : Dev) (j : JS) (put sure : List (Nat × Nat)) (A1 A2 : Option Addr) (c1 c2 : Nat) : Prop where
  dev : DevAt wr g b1 b2 d
  jr : JrAt wr gj g j
  low : w.heap.size < gj
  put_ : wr.ownsRow w.heap.size 46 2 (.slice A1 put.length c1) put.length (put.flatMap entC)
  sure_ : wr.ownsRow w.heap.size 46 2 (.slice A2 sure.length c2) sure.length (sure.flatMap entC)
  apart : ∀ y, (Value.slice A1 put.length c1).ownBlock = some y → (Value.slice A2 sure.length c2).ownBlock ≠ some y
  keep : Keep [] w wr
theorem JMem.move {w wr w' : World} {g b1 b2 gj gj' : Nat} {d d' : Dev} {j j' : JS} {put sure : List (Nat × Nat)} {A1 A2 : Option Addr} {c1 c2 : Nat} {F : List Nat} (h : JMem w wr g b1 b2 gj d j put sure A1 A2 c1 c2) (k : Keep F wr w') (hF : ∀ x ∈ F, x = gj ∨ x = g ∨ x = b1 ∨ x = b2)
    (hl : w.heap.size < g ∧ w.heap.size < b1 ∧ w.heap.size < b2) (hd : DevAt w' g b1 b2 d') (hj : JrAt w' gj' g j') (hlow : w.heap.size < gj') : JMem w w' g b1 b2 gj' d' j' put sure A1 A2 c1 c2 := by
  have hlo := h.low
  have hoff : ∀ {n c : Nat} {A : Option Addr} {L : List Value}, wr.ownsRow w.heap.size 46 2 (.slice A n c) n L → ∀ y, (Value.slice A n c).ownBlock = some y → y ∉ F := fun ho y hy hm => by
    rcases hF y hm with rfl | rfl | rfl | rfl
    · exact own_blk_ne ho h.jr.blk (by decide) hy
    · exact own_blk_ne ho h.dev.dev (by decide) hy
    · exact own_blk_ne ho h.dev.bits (by decide) hy
    · exact own_blk_ne ho h.dev.worn (by decide) hy
  exact ⟨hd, hj, hlow, own_keep h.put_ k (hoff h.put_), own_keep h.sure_ k (hoff h.sure_), h.apart, h.keep.trans k (fun x hx hlt => by have := hF x hx; omega)⟩
theorem JMem.move0 {w wr w' : World} {g b1 b2 gj : Nat} {d : Dev} {j : JS} {put sure : List (Nat × Nat)} {A1 A2 : Option Addr} {c1 c2 : Nat} (h : JMem w wr g b1 b2 gj d j put sure A1 A2 c1 c2) (k : Keep [] wr w') : JMem w w' g b1 b2 gj d j put sure A1 A2 c1 c2 :=
  ⟨h.dev.keep0 k, h.jr.keep0 k, h.low, own_keep0 h.put_ k, own_keep0 h.sure_ k, h.apart, h.keep.then k⟩
theorem JMem.swap {w wr : World} {g b1 b2 gj : Nat} {d : Dev} {j : JS} {put sure : List (Nat × Nat)} {A1 A2 : Option Addr} {c1 c2 : Nat} (h : JMem w wr g b1 b2 gj d j put sure A1 A2 c1 c2) : JMem w wr g b1 b2 gj d j sure put A2 A1 c2 c1 :=
  ⟨h.dev, h.jr, h.low, h.sure_, h.put_, fun y hy h2 => h.apart y h2 hy, h.keep⟩
theorem JMem.pushP {w wr w' : World} {g b1 b2 gj : Nat} {d : Dev} {j : JS} {put sure : List (Nat × Nat)} {A1 A2 : Option Addr} {c1 c2 : Nat} {x : Nat × Nat} {v' : Value} (h : JMem w wr g b1 b2 gj d j put sure A1 A2 c1 c2)
    (hown : w'.ownsRow w.heap.size 46 2 v' (put.length + 1) (put.flatMap entC ++ [.int .u32 (x.1 : Int), .int .u32 (x.2 : Int)])) (k : Keep (Value.slice A1 put.length c1).ownBlock.toList wr w')
    (hat : v'.ownBlock = (Value.slice A1 put.length c1).ownBlock ∨ v'.ownBlock = some (wr.heap.size + 1)) :
    ∃ A1' c1', v' = .slice A1' (put ++ [x]).length c1' ∧ JMem w w' g b1 b2 gj d j (put ++ [x]) sure A1' A2 c1' c2 := by
  obtain ⟨A1', c1', rfl⟩ := own_shape hown
  have hl : put.length + 1 = (put ++ [x]).length := by simp
  have hf : put.flatMap entC ++ [.int .u32 (x.1 : Int), .int .u32 (x.2 : Int)] = (put ++ [x]).flatMap entC := by simp [entC]
  rw [hl, hf] at hown
  rw [hl] at hat
  have off : ∀ {g' t : Nat} {cs : Array Value}, Blk wr g' t cs → 46 ≠ t → g' ∉ (Value.slice A1 put.length c1).ownBlock.toList := fun hb ht hm => own_blk_ne h.put_ hb ht (by simpa using hm)
  refine ⟨A1', c1', by rw [hl], ⟨h.dev.dev.keep k (off h.dev.dev (by decide)), h.dev.bits.keep k (off h.dev.bits (by decide)), h.dev.worn.keep k (off h.dev.worn (by decide))⟩, ⟨h.jr.blk.keep k (off h.jr.blk (by decide))⟩, h.low, hown, own_keep h.sure_ k (fun y hy hm => h.apart y (by simpa using hm) hy), fun y hy h2 => ?_, h.keep.trans k (fun y hy hlt => by have := row_baseJ h.put_ y hy; omega)⟩
  rcases hat with e | e
  · rw [e] at hy
    exact h.apart y hy h2
  · rw [e] at hy
    have := (h.sure_.lt y h2).2
    cases hy
    omega
/-- The values that the region with the law's looks yields. -/
def valJ (g gj bx s K cut : Nat) (put sure : List (Nat × Nat)) (A1 A2 : Option Addr) (c1 c2 : Nat) (i : Nat) : Value :=
  match i with
  | 0 | 10 | 13 => .pointer (some ⟨gj, 0, none⟩)
  | 2 => .pointer (some ⟨g, 0, none⟩)
  | 3 => .pointer (some ⟨bx, 0, none⟩)
  | 4 => .int .i64 (s : Int)
  | 6 => .slice A1 put.length c1
  | 7 | 17 => .bool true
  | 12 => .slice A2 sure.length c2
  | 14 => .int .i64 (((s : Int) - 1) * (K : Int))
  | 15 => .int .i64 (cut : Int)
  | 16 => .int .i64 (((s : Int) - 1) * (K : Int) - (cut : Int))
  | _ => .bool false
def PhiJ (g gj bx s K cut : Nat) (L put sure : List (Nat × Nat)) (A1 A2 : Option Addr) (c1 c2 : Nat) (i : Nat) (v : Value) (w : World) : Prop :=
  if i = 1 ∨ i = 5 ∨ i = 11 then ∃ A c, v = .slice A L.length c ∧ Reads w 2 A L.length (L.flatMap entC) else v = valJ g gj bx s K cut put sure A1 A2 c1 c2 i
theorem phiJ_keep (g gj bx s K cut : Nat) (L put sure : List (Nat × Nat)) (A1 A2 : Option Addr) (c1 c2 : Nat) : ∀ i v w w', PhiJ g gj bx s K cut L put sure A1 A2 c1 c2 i v w → Keep [] w w' → PhiJ g gj bx s K cut L put sure A1 A2 c1 c2 i v w' := by
  intro i v w w' h k
  unfold PhiJ at h ⊢
  split
  · rename_i hc
    rw [if_pos hc] at h
    obtain ⟨A, c, h1, h2⟩ := h
    exact ⟨A, c, h1, h2.keep0 k⟩
  · rename_i hc
    rw [if_neg hc] at h
    exact h
theorem phi_of {g gj bx s K cut : Nat} {L put sure : List (Nat × Nat)} {A1 A2 : Option Addr} {c1 c2 i : Nat} {v : Value} {w : World} (h1 : i ≠ 1) (h2 : i ≠ 5) (h3 : i ≠ 11) (h : v = valJ g gj bx s K cut put sure A1 A2 c1 c2 i) : PhiJ g gj bx s K cut L put sure A1 A2 c1 c2 i v w := by
  unfold PhiJ
  rw [if_neg (by omega)]
  exact h
theorem phi_get {g gj bx s K cut : Nat} {L put sure : List (Nat × Nat)} {A1 A2 : Option Addr} {c1 c2 i : Nat} {v : Value} {w : World} (h1 : i ≠ 1) (h2 : i ≠ 5) (h3 : i ≠ 11) (h : PhiJ g gj bx s K cut L put sure A1 A2 c1 c2 i v w) : v = valJ g gj bx s K cut put sure A1 A2 c1 c2 i := by
  unfold PhiJ at h
  rw [if_neg (by omega)] at h
  exact h
theorem phi_of_row {g gj bx s K cut : Nat} {L put sure : List (Nat × Nat)} {A1 A2 : Option Addr} {c1 c2 i : Nat} {v : Value} {w : World} (h1 : i = 1 ∨ i = 5 ∨ i = 11) (h : ∃ A c, v = .slice A L.length c ∧ Reads w 2 A L.length (L.flatMap entC)) : PhiJ g gj bx s K cut L put sure A1 A2 c1 c2 i v w := by
  unfold PhiJ
  rw [if_pos h1]
  exact h
theorem phi_row {g gj bx s K cut : Nat} {L put sure : List (Nat × Nat)} {A1 A2 : Option Addr} {c1 c2 i : Nat} {v : Value} {w : World} (h1 : i = 1 ∨ i = 5 ∨ i = 11) (h : PhiJ g gj bx s K cut L put sure A1 A2 c1 c2 i v w) : ∃ A c, v = .slice A L.length c ∧ Reads w 2 A L.length (L.flatMap entC) := by
  unfold PhiJ at h
  rw [if_pos h1] at h
  exact h
theorem list20 {l : List Value} (h : l.length = 20) : ∃ x0 x1 x2 x3 x4 x5 x6 x7 x8 x9 x10 x11 x12 x13 x14 x15 x16 x17 x18 x19, l = [x0, x1, x2, x3, x4, x5, x6, x7, x8, x9, x10, x11, x12, x13, x14, x15, x16, x17, x18, x19] := by
  match l, h with
  | [x0, x1, x2, x3, x4, x5, x6, x7, x8, x9, x10, x11, x12, x13, x14, x15, x16, x17, x18, x19], _ => exact ⟨x0, x1, x2, x3, x4, x5, x6, x7, x8, x9, x10, x11, x12, x13, x14, x15, x16, x17, x18, x19, rfl⟩

set_option maxRecDepth 100000 in
set_option maxHeartbeats 8000000 in
theorem jwhole_yes (s n : Nat) (lm b m : Int) (A : Option Addr) (k c : Nat) (xs : List JOp) (w : World) (hlen : xs.length = k) (hr : Reads w 3 A k (jopRow xs)) (hxs : ∀ o ∈ xs, o.w < 4294967296 ∧ o.n ≤ 9223372036854775807) (hk2 : k ≤ 100) (h1 : 2 ≤ s) (h2 : s ≤ 64) (h3 : 4 ≤ n) (h4 : n ≤ 100) (h5 : s * n ≤ 400) :
    Calls Try.prog 4 #[placeV s n lm b m, .slice A k c] w fun e w' => e = .returned (.bool true) ∧ Keep [] w w' := by
  have q0 : decide ((100 : Int) < (k : Int)) = false := decide_eq_false (by omega)
  have q1 : decide ((s : Int) < 2) = false := decide_eq_false (by omega)
  have q2 : decide ((n : Int) < 4) = false := decide_eq_false (by omega)
  have q3 : decide ((64 : Int) < (s : Int)) = false := decide_eq_false (by omega)
  have q4 : decide ((100 : Int) < (n : Int)) = false := decide_eq_false (by omega)
  have hmul : (s : Int) * (n : Int) ≤ 400 ∧ 0 ≤ (s : Int) * (n : Int) := by rw [← Int.natCast_mul]; omega
  have q5 : decide ((400 : Int) < (s : Int) * (n : Int)) = false := decide_eq_false (by omega)
  have p5 : ((400 : Int) < (s : Int) * (n : Int)) = False := eq_false (by omega)
  have p0 : (100 < k) = False := eq_false (by omega)
  have p1 : (s < 2) = False := eq_false (by omega)
  have p2 : (n < 4) = False := eq_false (by omega)
  have p3 : (64 < s) = False := eq_false (by omega)
  have p4 : (100 < n) = False := eq_false (by omega)
  have hw0 : IntKind.i64.wrap ((s : Int) * (n : Int)) = (s : Int) * (n : Int) := IntWalk.i64_in _ (by omega)
  have HN : Hid (∀ W, Calls Try.prog 12 #[.int .i64 s, .int .i64 n, .int .i64 500] W (RetNew W (newD s n 500))) := fun W => fnew_yes s n 500 W (by omega) h2 (by omega) (by omega) (by decide)
  have HK : Hid (∀ o ∈ xs, o.w < 4294967296 ∧ o.n ≤ 9223372036854775807) := hxs
  have HR := Lib.hid hr
  have HLEN := Lib.hid hlen
  have H5 := Lib.hid h5
  have HJN : Hid (JW s n 0 (newD s n 500) (openedJ (newD s n 500) 0 s) [] [] 0) := JW.new h1 h2 h3 h4
  obtain ⟨W0, hW0⟩ : ∃ W0, w.alloc (.cells #[.int .i64 (s : Int), .int .i64 (n : Int), .int .i64 lm, .int .i64 b, .int .i64 m] 23) = W0 := ⟨_, rfl⟩
  have K1 : Keep [] w W0 := by rw [← hW0]; exact (Keep.refl [] w).alloc _
  have B1 : Blk W0 w.heap.size 23 #[.int .i64 (s : Int), .int .i64 (n : Int), .int .i64 lm, .int .i64 b, .int .i64 m] := by rw [← hW0]; exact Blk.new _ _ _
  have hF : ∀ W, Keep [] W0 W → W.cell? ⟨w.heap.size, 0, none⟩ = some (.int .i64 (s : Int)) ∧ W.cell? ⟨w.heap.size, 1, none⟩ = some (.int .i64 (n : Int)) := fun W hk => by
    have := B1.keep hk (by simp)
    exact ⟨this.cell 0, this.cell 1⟩
  have hsz0 : w.heap.size < W0.heap.size := B1.lt
  have HKW := Lib.hid K1
  have HB1 := Lib.hid B1
  have HF := Lib.hid hF
  unfold placeV
  clear hxs hr hlen h5 hmul K1 B1
  go_enter Try.func4, Try.ntmps4
  go_upto_region 1 with fail
  clear hW0
  obtain ⟨c0, c1⟩ := hF W0 (Keep.refl _ _)
  go_wp2_with fail
  refine (HN.out _).mono ?_
  rintro e w1 ⟨g, b1, b2, rfl, hg, hb1, hb2, hd1, k1⟩
  have hok : (newD s n 500).Ok := HJN.out.ok_
  have HO : Hid (Calls Try.prog 13 #[.pointer (some ⟨g, 0, none⟩), .int .i64 0, .int .i64 (s : Int)] w1 fun e w' => ∃ gj, e = .returned (.tuple #[.pointer (some ⟨gj, 0, none⟩), .int .i64 0]) ∧ w1.heap.size ≤ gj ∧ JrAt w' gj g (openedJ (newD s n 500) 0 s) ∧ Keep [] w1 w') :=
    open_yes g b1 b2 0 s (newD s n 500) w1 hd1 hok rfl h1 (by show 0 + s ≤ s; omega) h3
  clear c0 c1
  obtain ⟨c0, c1⟩ := hF w1 k1
  have HK1 := Lib.hid k1
  have HD1 := Lib.hid hd1
  have hg' : W0.heap.size ≤ g := hg
  have HG : Hid (w.heap.size < g ∧ w.heap.size < b1 ∧ w.heap.size < b2) := by refine ⟨?_, ?_, ?_⟩ <;> omega
  clear hd1 k1 hok hg hg' hb1 hb2
  go_wp2_with fail
  refine HO.out.mono ?_
  rintro e w2 ⟨gj, rfl, hgj, hj2, k2⟩
  have HM : Hid (JMem w w2 g b1 b2 gj (newD s n 500) (openedJ (newD s n 500) 0 s) [] [] none none 0 0) :=
    ⟨HD1.out.keep0 k2, hj2, by have := HK1.out.size; omega, World.ownsRow_nil _ _ _ _, World.ownsRow_nil _ _ _ _, fun y hy => by simp [Value.ownBlock] at hy, (HKW.out.then HK1.out).then k2⟩
  have HP2 : Hid (Keep [] W0 w2) := HK1.out.then k2
  clear c0 c1 k2 hj2 hgj hF
  go_wp2_with fail
  go_loopw [7, 9, 10, 11, 12] (fun v7 v9 v10 v11 v12 wr => ∃ (i gj : Nat) (d : Dev) (j : JS) (put sure : List (Nat × Nat)) (cut : Nat) (A1 A2 : Option Addr) (a1 a2 : Nat), i ≤ k ∧ v12 = .int .i64 (i : Int) ∧ v7 = .pointer (some ⟨gj, 0, none⟩) ∧ v9 = .slice A1 put.length a1 ∧ v10 = .slice A2 sure.length a2 ∧ v11 = .int .i64 (cut : Int) ∧ JW s n i d j put sure cut ∧ JMem w wr g b1 b2 gj d j put sure A1 A2 a1 a2 ∧ Blk wr w.heap.size 23 #[.int .i64 (s : Int), .int .i64 (n : Int), .int .i64 lm, .int .i64 b, .int .i64 m]) (fun _ _ _ _ v12 _ => k - (intOf v12).toNat)
  case atStart => exact ⟨0, gj, _, _, [], [], 0, none, none, 0, 0, Nat.zero_le _, rfl, rfl, rfl, rfl, rfl, HJN.out, HM.out, HB1.out.keep0 HP2.out⟩
  case round =>
    obtain ⟨i, gj, d, j, put, sure, cut, A1, A2, a1, a2, hi, rfl, rfl, rfl, rfl, rfl, hjw, hm, hbx⟩ := hrel
    clear HM HP2 HJN HO HD1 HK1 HN
    by_cases hlt : i < k
    · have hil : i < xs.length := by rw [HLEN.out]; exact hlt
      obtain ⟨bo, oo, rfl, hbo, hcs⟩ := HR.out.addr (by omega)
      have HOP : Hid (∀ W, Keep [] w W → W.cell? ⟨bo, oo + i * 3, none⟩ = some (.int .i64 xs[i].kind) ∧ W.cell? ⟨bo, oo + i * 3 + 1, none⟩ = some (.int .i64 xs[i].n) ∧ W.cell? ⟨bo, oo + i * 3 + 2, none⟩ = some (.int .u32 (xs[i].w : Int))) := fun W hW => by
        have hg : ∀ jj u, (jopCells xs[i])[jj]? = some u → W.cell? ⟨bo, oo + (i * 3 + jj), none⟩ = some u := fun jj u hu => by
          have hj3 : jj < 3 := by
            have := (List.getElem?_eq_some_iff.1 hu).1
            simpa using this
          have h1 := hcs (i * 3 + jj) u (by rw [jopRow_at xs i hil jj hj3]; exact hu)
          exact (hW.cell (p := ⟨bo, oo + (i * 3 + jj), none⟩) hbo (by simp)).trans h1
        exact ⟨hg 0 _ rfl, hg 1 _ rfl, hg 2 _ rfl⟩
      have HOX := Lib.hid (HK.out xs[i] (List.getElem_mem hil))
      have hki : (i : Int) < (k : Int) := by omega
      have hki0 : (0 : Int) ≤ (i : Int) := by omega
      have hwi : IntKind.i64.wrap ((i : Int) + 1) = ((i + 1 : Nat) : Int) := by rw [show (i : Int) + 1 = ((i + 1 : Nat) : Int) by omega]; exact IntWalk.i64_in _ (by omega)
      clear hcs
      generalize xs[i] = o at *
      obtain ⟨m1, m2, m3⟩ := kindJ_facts o.kind
      have HJW := Lib.hid hjw
      have HM := Lib.hid hm
      have HBX := Lib.hid hbx
      have hkw := hm.keep
      obtain ⟨oc0, oc1, oc2⟩ := HOP.out wr hkw
      have HKW2 := Lib.hid hkw
      have hG : ∀ W, Keep [] wr W → W.cell? ⟨bo, oo + i * 3, none⟩ = some (.int .i64 o.kind) ∧ W.cell? ⟨bo, oo + i * 3 + 1, none⟩ = some (.int .i64 o.n) ∧ W.cell? ⟨bo, oo + i * 3 + 2, none⟩ = some (.int .u32 (o.w : Int)) := fun W hW => HOP.out W (HKW2.out.then hW)
      clear hjw hm hbx hkw
      by_cases hk4 : kindJ o.kind = 4
      · rw [hk4] at m3
        go_upto_region 21 with fail
        refine wp_region_flow_tail 12 (Keep [] wr) rfl (by kernel_rfl) (Keep.refl _ _).drew ?_
        iterate 12 (refine fl_val (v := ?_) (by rfl) ?_ ?_; rotate_left; (intro w' hS; obtain ⟨f0,f1,f2⟩ := hG w' hS; go_simp; with_reducible rfl); simp only [Act.put, List.setIfInBounds_toArray, List.set_cons_zero, List.set_cons_succ])
        refine fl_nil ?_
        intro w7 hS7
        have HAR := Lib.hid (farm_any g b1 b2 d o.n o.w w7 (HM.out.dev.keep0 hS7))
        go_wp2_with fail
        refine HAR.out.mono ?_
        rintro e w8 ⟨rfl, hd8, k8⟩
        have hn8 := HM.out.jr.blk.ne_ HM.out.dev.dev (by decide)
        have HM8 : Hid (JMem w w8 g b1 b2 gj (armS d o.n o.w) j put sure A1 A2 a1 a2) := (HM.out.move0 hS7).move k8 (fun x hx => by simp only [List.mem_cons, List.not_mem_nil, or_false] at hx; omega) HG.out hd8 ((HM.out.jr.keep0 hS7).keep k8 (by simp only [List.mem_cons, List.not_mem_nil, or_false]; exact hn8)) HM.out.low
        have HBX8 := Lib.hid ((HBX.out.keep0 hS7).keep k8 (by have := HG.out; simp only [List.mem_cons, List.not_mem_nil, or_false]; omega))
        have HJW8 := Lib.hid (HJW.out.arm o.n o.w HOX.out.1 HOX.out.2)
        clear k8 hd8 hS7 HAR
        go_wp2_with fail
        go_roundw
        case rel => exact ⟨i + 1, gj, _, _, put, sure, cut, A1, A2, a1, a2, by omega, by go_num, rfl, rfl, rfl, rfl, HJW8.out, HM8.out, HBX8.out⟩
        case measure => simp [intOf]; omega
      · obtain ⟨kk, hkk⟩ : ∃ kk, kindJ o.kind = kk := ⟨_, rfl⟩
        rw [hkk] at m3 hk4
        have n4 : (kk == 4) = false := beq_eq_false_iff_ne.2 hk4
        have n4' : (kk = 4) = False := eq_false hk4
        clear hkk
        go_upto_block 2 with fail
        go_cut [7, 9, 10, 11, 13] from 74 to 167 (fun v7 v9 v10 v11 v13 wx => ∃ (gj' : Nat) (d' : Dev) (j' : JS) (put' sure' : List (Nat × Nat)) (cut' : Nat) (A1' A2' : Option Addr) (a1' a2' : Nat), v7 = .pointer (some ⟨gj', 0, none⟩) ∧ v9 = .slice A1' put'.length a1' ∧ v10 = .slice A2' sure'.length a2' ∧ v11 = .int .i64 (cut' : Int) ∧ JW s n (i + 1) d' j' put' sure' cut' ∧ JMem w wx g b1 b2 gj' d' j' put' sure' A1' A2' a1' a2' ∧ Blk wx w.heap.size 23 #[.int .i64 (s : Int), .int .i64 (n : Int), .int .i64 lm, .int .i64 b, .int .i64 m])
        case first =>
          by_cases hk5 : kk = 5
          · subst hk5
            have HPW := Lib.hid (fpower_any g b1 b2 d true wr HM.out.dev)
            clear hG
            go_wp2_with fail
            refine HPW.out.mono ?_
            rintro e w8 ⟨rfl, hd8, k8⟩
            have hn8 := HM.out.jr.blk.ne_ HM.out.dev.dev (by decide)
            have HM8 : Hid (JMem w w8 g b1 b2 gj (powerS d true) j put sure A1 A2 a1 a2) := HM.out.move k8 (fun x hx => by simp only [List.mem_cons, List.not_mem_nil, or_false] at hx; omega) HG.out hd8 (HM.out.jr.keep k8 (by simp only [List.mem_cons, List.not_mem_nil, or_false]; exact hn8)) HM.out.low
            have HBX8 := Lib.hid (HBX.out.keep k8 (by have := HG.out; simp only [List.mem_cons, List.not_mem_nil, or_false]; omega))
            have HJW8 := Lib.hid HJW.out.open
            have HO : Hid (Calls Try.prog 13 #[.pointer (some ⟨g, 0, none⟩), .int .i64 0, .int .i64 (s : Int)] w8 fun e w' => ∃ gj, e = .returned (.tuple #[.pointer (some ⟨gj, 0, none⟩), .int .i64 0]) ∧ w8.heap.size ≤ gj ∧ JrAt w' gj g (openedJ (powerS d true) 0 s) ∧ Keep [] w8 w') :=
              open_yes g b1 b2 0 s (powerS d true) w8 hd8 HJW8.out.ok_ rfl h1 (by have := HJW8.out.ns; show 0 + s ≤ (powerS d true).ns; omega) (by have := HJW8.out.nw; show 4 ≤ (powerS d true).nw; omega)
            have bc0 : w8.cell? ⟨w.heap.size, 0, none⟩ = some (.int .i64 (s : Int)) := HBX8.out.cell 0
            clear k8 hd8 oc0 oc1 oc2
            go_wp2_with fail
            refine HO.out.mono ?_
            rintro e w9 ⟨gj2, rfl, hgj2, hj2, k9⟩
            have HM9 : Hid (JMem w w9 g b1 b2 gj2 (powerS d true) (openedJ (powerS d true) 0 s) put sure A1 A2 a1 a2) := HM8.out.move k9 (fun x hx => by simp at hx) HG.out (HM8.out.dev.keep0 k9) hj2 (by have := HBX8.out.lt; omega)
            have HBX9 := Lib.hid (HBX8.out.keep0 k9)
            clear k9 hj2 hgj2 bc0
            go_wp2_with fail
            go_meet
            case rel => exact ⟨gj2, _, _, put, sure, cut, A1, A2, a1, a2, rfl, rfl, rfl, rfl, HJW8.out, HM9.out, HBX9.out⟩
          · have n5 : (kk == 5) = false := beq_eq_false_iff_ne.2 hk5
            have n5' : (kk = 5) = False := eq_false hk5
            have HNX : Hid (∀ W, Keep [] wr W → Calls Try.prog 16 #[.pointer (some ⟨gj, 0, none⟩)] W fun e w' => e = .returned (.int .u32 (j.next : Int)) ∧ W = w') := fun W hk => next_any47 gj g j W (HM.out.jr.keep0 hk)
            go_upto_region 13 with fail
            go_cut [13] from 74 to 167 (fun v13 wx => ∃ ge, v13 = .pointer (some ⟨ge, 0, none⟩) ∧ Blk wx ge 46 #[.int .u32 (j.next : Int), .int .u32 (o.w : Int)] ∧ wr.heap.size ≤ ge ∧ Keep [] wr wx)
            case first =>
              refine ap_begin 9 (Keep [] wr) rfl (Keep.refl _ _).drew (fun hS hPan => ?_) (fun _ _ d _ _ h => by cases d <;> exact h)
              (refine ap_val (v := ?_) 0 rfl (by kernel_rfl) (by kernel_rfl) (by kernel_rfl) (by kernel_rfl) (by rfl) hPan ?_ hS ?_; rotate_left; (intro w' hSw; go_simp; try with_reducible rfl); simp only [Act.put, List.setIfInBounds_toArray, List.set_cons_zero, List.set_cons_succ])
              (refine ap_val (v := ?_) 2 rfl (by kernel_rfl) (by kernel_rfl) (by kernel_rfl) (by kernel_rfl) (by rfl) hPan ?_ hS ?_; rotate_left; (intro w' hSw; go_simp; try with_reducible rfl); simp only [Act.put, List.setIfInBounds_toArray, List.set_cons_zero, List.set_cons_succ])
              (refine ap_val (v := ?_) 3 rfl (by kernel_rfl) (by kernel_rfl) (by kernel_rfl) (by kernel_rfl) (by rfl) hPan ?_ hS ?_; rotate_left; (intro w' hSw; go_simp; try with_reducible rfl); simp only [Act.put, List.setIfInBounds_toArray, List.set_cons_zero, List.set_cons_succ])
              (refine ap_val (v := ?_) 4 rfl (by kernel_rfl) (by kernel_rfl) (by kernel_rfl) (by kernel_rfl) (by rfl) hPan ?_ hS ?_; rotate_left; (intro w' hSw; go_simp; try with_reducible rfl); simp only [Act.put, List.setIfInBounds_toArray, List.set_cons_zero, List.set_cons_succ])
              (refine ap_val (v := ?_) 5 rfl (by kernel_rfl) (by kernel_rfl) (by kernel_rfl) (by kernel_rfl) (by rfl) hPan ?_ hS ?_; rotate_left; (intro w' hSw; go_simp; try with_reducible rfl); simp only [Act.put, List.setIfInBounds_toArray, List.set_cons_zero, List.set_cons_succ])
              (refine ap_val (v := ?_) 6 rfl (by kernel_rfl) (by kernel_rfl) (by kernel_rfl) (by kernel_rfl) (by rfl) hPan ?_ hS ?_; rotate_left; (intro w' hSw; obtain ⟨f0,f1,f2⟩ := hG w' hSw; go_simp; try with_reducible rfl); simp only [Act.put, List.setIfInBounds_toArray, List.set_cons_zero, List.set_cons_succ])
              generalize wr.drew = wd at *
              refine ap_twoJ 1 8 (by kernel_rfl) ?r1 ?r8
              case r1 =>
                refine op_call (f := 16) 1 rfl (by kernel_rfl) rfl (by simp only [List.map_toArray, List.map_cons, List.map_nil]; rfl) Try.func16 (by kernel_rfl) (by kernel_rfl) (HNX.out wd hS) ?_
                rintro e wd' ⟨rfl, rfl⟩
                refine ⟨_, rfl, fun _ => hS, ?_⟩
                (simp only [Act.put, List.setIfInBounds_toArray, List.set_cons_zero, List.set_cons_succ])
                (refine ap_val (v := ?_) 7 rfl (by kernel_rfl) (by kernel_rfl) (by kernel_rfl) (by kernel_rfl) (by rfl) hPan ?_ hS ?_; rotate_left; (intro w' hSw; go_simp; try with_reducible rfl); simp only [Act.put, List.setIfInBounds_toArray, List.set_cons_zero, List.set_cons_succ])
                refine ap_one 8 (by kernel_rfl) ?_
                refine op_run (v := .pointer (some ⟨wd.heap.size, 0, none⟩)) (w' := wd.alloc (.cells #[.int .u32 0, .int .u32 0] 46)) 8 rfl (by kernel_rfl) (by go_simp) ?_
                have hS8 := hS.alloc (.cells #[.int .u32 0, .int .u32 0] 46)
                refine ⟨fun _ => hS8, ?_⟩
                (simp only [Act.put, List.setIfInBounds_toArray, List.set_cons_zero, List.set_cons_succ])
                refine ap_one 9 (by kernel_rfl) ?_
                refine op_store_all (t := 46) (cs := #[.int .u32 0, .int .u32 0]) (vs := [.int .u32 (j.next : Int), .int .u32 (o.w : Int)]) 9 rfl (by kernel_rfl) rfl rfl rfl agg_entry.2 (Blk.new wd 46 #[.int .u32 0, .int .u32 0]) (by simp [Value.oneCell']) rfl ?_
                intro w9 d9 k9
                refine ⟨fun h => (by cases h), ap_done (by kernel_rfl) ?_ _⟩
                (simp only [Act.put, List.setIfInBounds_toArray, List.set_cons_zero, List.set_cons_succ])
                have HD9 := Lib.hid d9
                have HSZ : Hid (wr.heap.size ≤ wd.heap.size) := hS.size
                have HS9 : Hid (Keep [] wr w9) := hS8.trans k9 (fun y hy hl => by have := hS.size; simp only [List.mem_cons, List.not_mem_nil, or_false] at hy; omega)
                clear hS8 k9 d9 hS hPan hG
                go_wp2_with fail
                go_meet
                case rel => exact ⟨_, rfl, HD9.out, HSZ.out, HS9.out⟩
              case r8 =>
                refine op_run (v := .pointer (some ⟨wd.heap.size, 0, none⟩)) (w' := wd.alloc (.cells #[.int .u32 0, .int .u32 0] 46)) 8 rfl (by kernel_rfl) (by go_simp) ?_
                have hS8 := hS.alloc (.cells #[.int .u32 0, .int .u32 0] 46)
                refine ⟨fun _ => hS8, ?_⟩
                (simp only [Act.put, List.setIfInBounds_toArray, List.set_cons_zero, List.set_cons_succ])
                refine ap_one 1 (by kernel_rfl) ?_
                refine op_call (f := 16) 1 rfl (by kernel_rfl) rfl (by simp only [List.map_toArray, List.map_cons, List.map_nil]; rfl) Try.func16 (by kernel_rfl) (by kernel_rfl) (HNX.out _ hS8) ?_
                rintro e wd' ⟨rfl, rfl⟩
                refine ⟨_, rfl, fun _ => hS8, ?_⟩
                (simp only [Act.put, List.setIfInBounds_toArray, List.set_cons_zero, List.set_cons_succ])
                refine ap_one 7 (by kernel_rfl) ?_
                refine op_run (v := .agg #[.int .u32 (j.next : Int), .int .u32 (o.w : Int)]) (w' := wd.alloc (.cells #[.int .u32 0, .int .u32 0] 46)) 7 rfl (by kernel_rfl) (by go_simp) ?_
                refine ⟨fun _ => hS8, ?_⟩
                (simp only [Act.put, List.setIfInBounds_toArray, List.set_cons_zero, List.set_cons_succ])
                refine ap_one 9 (by kernel_rfl) ?_
                refine op_store_all (t := 46) (cs := #[.int .u32 0, .int .u32 0]) (vs := [.int .u32 (j.next : Int), .int .u32 (o.w : Int)]) 9 rfl (by kernel_rfl) rfl rfl rfl agg_entry.2 (Blk.new wd 46 #[.int .u32 0, .int .u32 0]) (by simp [Value.oneCell']) rfl ?_
                intro w9 d9 k9
                refine ⟨fun h => (by cases h), ap_done (by kernel_rfl) ?_ _⟩
                (simp only [Act.put, List.setIfInBounds_toArray, List.set_cons_zero, List.set_cons_succ])
                have HD9 := Lib.hid d9
                have HSZ : Hid (wr.heap.size ≤ wd.heap.size) := hS.size
                have HS9 : Hid (Keep [] wr w9) := hS8.trans k9 (fun y hy hl => by have := hS.size; simp only [List.mem_cons, List.not_mem_nil, or_false] at hy; omega)
                clear hS8 k9 d9 hS hPan hG
                go_wp2_with fail
                go_meet
                case rel => exact ⟨_, rfl, HD9.out, HSZ.out, HS9.out⟩
            case rest =>
              obtain ⟨ge, rfl, hge, hgw, hkc⟩ := hcut
              have hown0 := HM.out.put_
              have hgn1 : ge ∉ (Value.slice A1 put.length a1).ownBlock.toList := fun hm => by have := (hown0.lt ge (by simpa using hm)).2; omega
              have hown0 := HM.out.sure_
              have hgn2 : ge ∉ (Value.slice A2 sure.length a2).ownBlock.toList := fun hm => by have := (hown0.lt ge (by simpa using hm)).2; omega
              have HGE := Lib.hid hge
              have HMC := Lib.hid (HM.out.move0 hkc)
              have HBXC := Lib.hid (HBX.out.keep0 hkc)
              obtain ⟨oc0', oc1', oc2'⟩ := hG wc hkc
              have e0 : wc.cell? ⟨ge, 0, none⟩ = some (.int .u32 (j.next : Int)) := hge.cell 0
              have e1 : wc.cell? ⟨ge, 1, none⟩ = some (.int .u32 (o.w : Int)) := hge.cell 1
              have hplen := HJW.out.plen
              have hslen := HJW.out.slen
              have hown1 := HMC.out.put_
              have hBw : w.heap.size ≤ wc.heap.size := HMC.out.keep.size
              clear hge hkc HM HBX HNX hG hown0
              go_wp2_with (refine stop_at 99 rfl ?_)
              constructor
              refine wpList_append_one rfl (.tmp 96) (.tmp 98) 36 rfl slice_entry hown1 rfl rfl (us := [.int .u32 (j.next : Int), .int .u32 (o.w : Int)]) rfl (by simp [Value.oneCell']) hBw (by omega) (by unfold maxLen; omega) ?_
              intro v' w10 hown hgrow hat
              obtain ⟨A1', a1', rfl, hm10⟩ := HMC.out.pushP (x := (j.next, o.w)) hown hgrow hat
              have HM10 := Lib.hid hm10
              have hbxn : w.heap.size ∉ (Value.slice A1 put.length a1).ownBlock.toList := fun hm => own_blk_ne hown1 HBXC.out (by decide) (by simpa using hm)
              have HBX10 := Lib.hid (HBXC.out.keep hgrow hbxn)
              have HGE10 := Lib.hid (HGE.out.keep hgrow hgn1)
              obtain ⟨d2, j2, er, hadd⟩ : ∃ d2 j2 er, addJ d j o.w = (d2, j2, er) := ⟨_, _, _, rfl⟩
              have hjb := HJW.out.base
              have hjm := HJW.out.many
              have hjs := HJW.out.sec
              have hja := HJW.out.at_
              have hjn := HJW.out.next
              have HADD := Lib.hid (add_any47 gj g b1 b2 d j o.w w10 hm10.dev HJW.out.ok_ hm10.jr HOX.out.1 (by omega) (by omega) (by omega) (by omega) (by omega) (by omega))
              have HSTEP := Lib.hid (HJW.out.add (w := o.w) (by omega) HOX.out.1)
              rw [hadd] at HADD HSTEP
              obtain ⟨oc0'', oc1'', oc2''⟩ := HOP.out w10 hm10.keep
              clear hown hgrow hat hown1 hbxn hm10 hadd e0 e1 oc0' oc1' oc2' hjb hjm hjs hja hjn hgn1 HGE HMC HBXC hBw
              go_wp2_with fail
              refine HADD.out.mono ?_
              rintro e w11 ⟨rfl, hl⟩
              have hn1 := HGE10.out.ne_ HM10.out.dev.dev (by decide)
              have hn2 := HGE10.out.ne_ HM10.out.dev.bits (by decide)
              have hn3 := HGE10.out.ne_ HM10.out.dev.worn (by decide)
              have hn4 := HGE10.out.ne_ HM10.out.jr.blk (by decide)
              have HGE11 := Lib.hid (HGE10.out.keep hl.keep (by simp only [List.mem_cons, List.not_mem_nil, or_false]; omega))
              have hlow := HM10.out.low
              have HBX11 := Lib.hid (HBX10.out.keep hl.keep (by have := HG.out; simp only [List.mem_cons, List.not_mem_nil, or_false]; omega))
              have hm11 : JMem w w11 g b1 b2 gj d2 j2 (put ++ [(j.next, o.w)]) sure A1' A2 a1' a2 := HM10.out.move hl.keep (fun x hx => by simpa only [List.mem_cons, List.not_mem_nil, or_false] using hx) HG.out hl.dev hl.jr hlow
              have HM11 := Lib.hid hm11
              clear hl hn1 hn2 hn3 hn4 hlow HM10 HGE10 HBX10 HADD oc0'' oc1'' oc2''
              rcases HSTEP.out with ⟨e0, eon, hjw⟩ | ⟨e0, eoff, hjw⟩
              · obtain rfl : er = 0 := e0
                have HJW2 : Hid (JW s n (i + 1) d2 j2 (put ++ [(j.next, o.w)]) (sure ++ [(j.next, o.w)]) cut) := hjw
                have f0 : w11.cell? ⟨ge, 0, none⟩ = some (.int .u32 (j.next : Int)) := HGE11.out.cell 0
                have f1 : w11.cell? ⟨ge, 1, none⟩ = some (.int .u32 (o.w : Int)) := HGE11.out.cell 1
                have hown1 := hm11.sure_
                have hBw : w.heap.size ≤ w11.heap.size := hm11.keep.size
                clear hjw eon hm11 HSTEP
                go_wp2_with (refine stop_at 111 rfl ?_)
                constructor
                refine wpList_append_one rfl (.tmp 108) (.tmp 110) 36 rfl slice_entry hown1 rfl rfl (us := [.int .u32 (j.next : Int), .int .u32 (o.w : Int)]) rfl (by simp [Value.oneCell']) hBw (by omega) (by unfold maxLen; omega) ?_
                intro v' w12 hown hgrow hat
                obtain ⟨A2', a2', rfl, hm12⟩ := HM11.out.swap.pushP (x := (j.next, o.w)) hown hgrow hat
                have HM12 := Lib.hid hm12.swap
                have hbxn : w.heap.size ∉ (Value.slice A2 sure.length a2).ownBlock.toList := fun hm => own_blk_ne hown1 HBX11.out (by decide) (by simpa using hm)
                have HBX12 := Lib.hid (HBX11.out.keep hgrow hbxn)
                clear hown hgrow hat hown1 hbxn hm12 f0 f1
                go_wp2_with fail
                go_meet
                case rel => exact ⟨gj, d2, j2, _, _, cut, A1', A2', a1', a2', rfl, by simp, by simp, rfl, HJW2.out, HM12.out, HBX12.out⟩
              · have e0' : (er == 0) = false := beq_eq_false_iff_ne.2 e0
                have e0'' : (er = 0) = False := eq_false e0
                have hwc : IntKind.i64.wrap ((cut : Int) + 1) = ((cut + 1 : Nat) : Int) := by rw [show (cut : Int) + 1 = ((cut + 1 : Nat) : Int) by omega]; exact IntWalk.i64_in _ (by have := HJW.out.clen; omega)
                have HJW2 : Hid (JW s n (i + 1) d2 j2 (put ++ [(j.next, o.w)]) sure (cut + 1)) := hjw
                have HON := Lib.hid (fon_any g b1 b2 d2 w11 hm11.dev)
                have eoff' : d2.on = false := eoff
                rw [eoff'] at HON
                clear hjw eoff eoff' hm11 HSTEP e0
                go_wp2_with fail
                refine HON.out.mono ?_
                rintro e w12 ⟨rfl, rfl⟩
                go_wp2_with fail
                go_meet
                case rel => exact ⟨gj, d2, j2, _, _, cut + 1, A1', A2, a1', a2, rfl, by simp, rfl, by go_num, HJW2.out, HM11.out, HBX11.out⟩
        case rest =>
          obtain ⟨gj', d', j', put', sure', cut', A1', A2', a1', a2', rfl, rfl, rfl, rfl, hjw, hm, hbx⟩ := hcut
          have HJW2 := Lib.hid hjw
          have HM2 := Lib.hid hm
          have HBX2 := Lib.hid hbx
          obtain ⟨L, hL⟩ : ∃ L, rowJ s n d' = L := ⟨_, rfl⟩
          have HLL : Hid (L.length ≤ 400) := by rw [← hL]; exact rowJ_len s n d' H5.out
          have HKEP : Hid (∀ x ∈ L, x ∈ put') := by rw [← hL]; exact hjw.kept
          obtain ⟨K, hK⟩ : ∃ K, n / 4 = K := ⟨_, rfl⟩
          have hmk : ((s : Int) - 1) * (K : Int) = (((s - 1) * K : Nat) : Int) := by rw [Int.natCast_mul, Int.ofNat_sub (by omega)]; rfl
          have HMK : Hid (0 ≤ ((s : Int) - 1) * (K : Int) ∧ ((s : Int) - 1) * (K : Int) ≤ 400) := by
            rw [hmk]
            have t1 : (s - 1) * K ≤ s * n := Nat.mul_le_mul (by omega) (by omega)
            have := H5.out
            refine ⟨?_, ?_⟩ <;> omega
          have HLAS : Hid (∀ q, (hq : q < sure'.length) → (sure'.length : Int) - (((s : Int) - 1) * (K : Int) - (cut' : Int)) ≤ (q : Int) → sure'[q] ∈ L) := by
            rw [hmk, ← hK, ← hL]
            exact hjw.last
          have eb := hjw.base
          have em := hjw.many
          have en := hjw.nw
          have es := hjw.ns
          have HAL : Hid (∀ W, Keep [] wc W → Calls Try.prog 18 #[.pointer (some ⟨gj', 0, none⟩)] W (RetEnts W L)) := fun W hk => by
            have h := allHelp_any gj' g b1 b2 d' j' W (HM2.out.jr.keep0 hk) (HM2.out.dev.keep0 hk) HJW2.out.ok_ (by omega) (by rw [eb, em, en]; show (rowJ s n d').length ≤ 100000; rw [hL]; have := HLL.out; omega)
            rw [eb, em, en] at h
            exact hL ▸ h
          have HTH : Hid (∀ W, Keep [] wc W → Calls Try.prog 23 #[.pointer (some ⟨g, 0, none⟩), .int .i64 0, .int .i64 (s : Int)] W (RetEnts W L)) := fun W hk => by
            have h := there_any47 g b1 b2 0 s d' W (HM2.out.dev.keep0 hk) HJW2.out.ok_ (by omega)
            rw [en] at h
            exact hL ▸ h
          have HKE : Hid (∀ W, Keep [] wc W → Calls Try.prog 17 #[.pointer (some ⟨gj', 0, none⟩)] W fun e w' => e = .returned (.int .i64 (((s : Int) - 1) * (K : Int))) ∧ Keep [] W w') := fun W hk => by
            have h := keeps_any47 gj' g b1 b2 d' j' W (HM2.out.dev.keep0 hk) HJW2.out.ok_ (HM2.out.jr.keep0 hk) (by omega) (by omega)
            rw [em, en, hK] at h
            exact h
          have hwd : IntKind.i64.wrap (((s : Int) - 1) * (K : Int) - (cut' : Int)) = ((s : Int) - 1) * (K : Int) - (cut' : Int) := IntWalk.i64_in _ (by have := HMK.out; have := hjw.clen; omega)
          clear hjw hm hbx hmk hL hK eb em en es
          go_upto_region 27 with fail
          refine wp_region_relW 148 20 168 rfl rfl (PhiJ g gj' w.heap.size s K cut' L put' sure' A1' A2' a1' a2') rfl (by kernel_rfl) (phiJ_keep g gj' w.heap.size s K cut' L put' sure' A1' A2' a1' a2') (Nat.le_of_ble_eq_true rfl) ?hop ?hend
          case hend =>
            intro ys w' hl hΦ hk'
            obtain ⟨x0, x1, x2, x3, x4, x5, x6, x7, x8, x9, x10, x11, x12, x13, x14, x15, x16, x17, x18, x19, rfl⟩ := list20 hl
            have hx : x19 = .bool false := phi_get (by decide) (by decide) (by decide) (hΦ 19 (by decide))
            subst hx
            have HM3 := Lib.hid (HM2.out.move0 hk')
            have HBX3 := Lib.hid (HBX2.out.keep0 hk')
            clear hΦ hl hk'
            simp only [List.take_succ_cons, List.take_zero, List.drop_succ_cons, List.drop_zero, List.cons_append, List.nil_append]
            go_wp2_with fail
            go_roundw
            case rel => exact ⟨i + 1, gj', d', j', put', sure', cut', A1', A2', a1', a2', by omega, by go_num, rfl, rfl, rfl, rfl, HJW2.out, HM3.out, HBX3.out⟩
            case measure => simp [intOf]; omega
          case hop =>
            intro ii oo' a w' ho hk hdeps hoth
            have hi : ii < 20 := (List.getElem?_eq_some_iff.1 ho).1
            have h2 : a.tmps.getD 2 undef = .pointer (some ⟨w.heap.size, 0, none⟩) := hoth 2 (.inl (by decide))
            have h5 : a.tmps.getD 5 undef = .pointer (some ⟨g, 0, none⟩) := hoth 5 (.inl (by decide))
            have h7 : a.tmps.getD 7 undef = .pointer (some ⟨gj', 0, none⟩) := hoth 7 (.inl (by decide))
            have h9 : a.tmps.getD 9 undef = .slice A1' put'.length a1' := hoth 9 (.inl (by decide))
            have h10 : a.tmps.getD 10 undef = .slice A2' sure'.length a2' := hoth 10 (.inl (by decide))
            have h11 : a.tmps.getD 11 undef = .int .i64 (cut' : Int) := hoth 11 (.inl (by decide))
            rcases (show ii = 0 ∨ ii = 1 ∨ ii = 2 ∨ ii = 3 ∨ ii = 4 ∨ ii = 5 ∨ ii = 6 ∨ ii = 7 ∨ ii = 8 ∨ ii = 9 ∨ ii = 10 ∨ ii = 11 ∨ ii = 12 ∨ ii = 13 ∨ ii = 14 ∨ ii = 15 ∨ ii = 16 ∨ ii = 17 ∨ ii = 18 ∨ ii = 19 by omega) with rfl | rfl | rfl | rfl | rfl | rfl | rfl | rfl | rfl | rfl | rfl | rfl | rfl | rfl | rfl | rfl | rfl | rfl | rfl | rfl
            · cases ho
              exact op_mov 0 rfl rfl h7 ⟨_, rfl, Keep.refl _ _, phi_of (by decide) (by decide) (by decide) rfl⟩
            · cases ho
              have g0 : a.tmps.getD 148 undef = .pointer (some ⟨gj', 0, none⟩) := phi_get (by decide) (by decide) (by decide) (hdeps ⟨0, .data⟩ (by simp) rfl)
              refine op_call (f := 18) (vs := #[.pointer (some ⟨gj', 0, none⟩)]) 1 rfl rfl rfl (by simp only [List.map_toArray, List.map_cons, List.map_nil, Act.eval, g0]) Try.func18 (by kernel_rfl) (by kernel_rfl) (HAL.out w' hk) ?_
              rintro e w2 ⟨A, c, rfl, hown, k2⟩
              exact ⟨_, rfl, _, rfl, k2, phi_of_row (by decide) ⟨A, c, rfl, Reads.of_own hown⟩⟩
            · cases ho
              exact op_mov 2 rfl rfl h5 ⟨_, rfl, Keep.refl _ _, phi_of (by decide) (by decide) (by decide) rfl⟩
            · cases ho
              refine op_run (v := .pointer (some ⟨w.heap.size, 0, none⟩)) (w' := w') 3 rfl rfl (by go_simp) ?_
              exact ⟨_, rfl, Keep.refl _ _, phi_of (by decide) (by decide) (by decide) rfl⟩
            · cases ho
              have g3 : a.tmps.getD 151 undef = .pointer (some ⟨w.heap.size, 0, none⟩) := phi_get (by decide) (by decide) (by decide) (hdeps ⟨3, .data⟩ (by simp) rfl)
              have c0 : w'.cell? ⟨w.heap.size, 0, none⟩ = some (.int .i64 (s : Int)) := (HBX2.out.keep0 hk).cell 0
              refine op_run (v := .int .i64 (s : Int)) (w' := w') 4 rfl rfl (by go_simp) ?_
              exact ⟨_, rfl, Keep.refl _ _, phi_of (by decide) (by decide) (by decide) rfl⟩
            · cases ho
              have g2 : a.tmps.getD 150 undef = .pointer (some ⟨g, 0, none⟩) := phi_get (by decide) (by decide) (by decide) (hdeps ⟨2, .data⟩ (by simp) rfl)
              have g4 : a.tmps.getD 152 undef = .int .i64 (s : Int) := phi_get (by decide) (by decide) (by decide) (hdeps ⟨4, .data⟩ (by simp) rfl)
              refine op_call (f := 23) (vs := #[.pointer (some ⟨g, 0, none⟩), .int .i64 0, .int .i64 (s : Int)]) 5 rfl rfl rfl (by simp only [List.map_toArray, List.map_cons, List.map_nil, Act.eval, g2, g4]) Try.func23 (by kernel_rfl) (by kernel_rfl) (HTH.out w' hk) ?_
              rintro e w2 ⟨A, c, rfl, hown, k2⟩
              exact ⟨_, rfl, _, rfl, k2, phi_of_row (by decide) ⟨A, c, rfl, Reads.of_own hown⟩⟩
            · cases ho
              exact op_mov 6 rfl rfl h9 ⟨_, rfl, Keep.refl _ _, phi_of (by decide) (by decide) (by decide) rfl⟩
            · cases ho
              obtain ⟨Aa, ca, ga, ra⟩ := phi_row (by decide) (hdeps ⟨1, .data⟩ (by simp) rfl)
              obtain ⟨Ab, cb, gb, rb⟩ := phi_row (by decide) (hdeps ⟨5, .data⟩ (by simp) rfl)
              have g6 : a.tmps.getD 154 undef = .slice A1' put'.length a1' := phi_get (by decide) (by decide) (by decide) (hdeps ⟨6, .data⟩ (by simp) rfl)
              have ga' : a.tmps.getD 149 undef = .slice Aa L.length ca := ga
              have gb' : a.tmps.getD 153 undef = .slice Ab L.length cb := gb
              refine op_call (f := 22) (vs := #[.slice Aa L.length ca, .slice Ab L.length cb, .slice A1' put'.length a1']) 7 rfl rfl rfl (by simp only [List.map_toArray, List.map_cons, List.map_nil, Act.eval, ga', gb', g6]) Try.func22 (by kernel_rfl) (by kernel_rfl) (kept_yes Aa Ab A1' ca cb a1' L put' w' ra rb (Reads.of_own (own_keep0 HM2.out.put_ hk)) HKEP.out (by have := HLL.out; omega) (by have := HJW2.out.plen; omega)) ?_
              rintro e w2 ⟨rfl, k2⟩
              exact ⟨_, rfl, _, rfl, k2, phi_of (by decide) (by decide) (by decide) rfl⟩
            · cases ho
              have g7 : a.tmps.getD 155 undef = .bool true := phi_get (by decide) (by decide) (by decide) (hdeps ⟨7, .data⟩ (by simp) rfl)
              refine op_run (v := .bool false) (w' := w') 8 rfl rfl (by go_simp) ?_
              exact ⟨_, rfl, Keep.refl _ _, phi_of (by decide) (by decide) (by decide) rfl⟩
            · cases ho
              have g8 : a.tmps.getD 156 undef = .bool false := phi_get (by decide) (by decide) (by decide) (hdeps ⟨8, .data⟩ (by simp) rfl)
              exact op_mov 9 rfl rfl g8 ⟨_, rfl, Keep.refl _ _, phi_of (by decide) (by decide) (by decide) rfl⟩
            · cases ho
              have g9 : a.tmps.getD 157 undef = .bool false := phi_get (by decide) (by decide) (by decide) (hdeps ⟨9, .guard⟩ (by simp) rfl)
              exact op_mov 10 rfl (wanted_of (j := 9) (d := 157) (b := false) rfl rfl g9) h7 ⟨_, rfl, Keep.refl _ _, phi_of (by decide) (by decide) (by decide) rfl⟩
            · cases ho
              have g9 : a.tmps.getD 157 undef = .bool false := phi_get (by decide) (by decide) (by decide) (hdeps ⟨9, .guard⟩ (by simp) rfl)
              have g0 : a.tmps.getD 158 undef = .pointer (some ⟨gj', 0, none⟩) := phi_get (by decide) (by decide) (by decide) (hdeps ⟨10, .data⟩ (by simp) rfl)
              refine op_call (f := 18) (vs := #[.pointer (some ⟨gj', 0, none⟩)]) 11 rfl (wanted_of (j := 9) (d := 157) (b := false) rfl rfl g9) rfl (by simp only [List.map_toArray, List.map_cons, List.map_nil, Act.eval, g0]) Try.func18 (by kernel_rfl) (by kernel_rfl) (HAL.out w' hk) ?_
              rintro e w2 ⟨A, c, rfl, hown, k2⟩
              exact ⟨_, rfl, _, rfl, k2, phi_of_row (by decide) ⟨A, c, rfl, Reads.of_own hown⟩⟩
            · cases ho
              have g9 : a.tmps.getD 157 undef = .bool false := phi_get (by decide) (by decide) (by decide) (hdeps ⟨9, .guard⟩ (by simp) rfl)
              exact op_mov 12 rfl (wanted_of (j := 9) (d := 157) (b := false) rfl rfl g9) h10 ⟨_, rfl, Keep.refl _ _, phi_of (by decide) (by decide) (by decide) rfl⟩
            · cases ho
              have g9 : a.tmps.getD 157 undef = .bool false := phi_get (by decide) (by decide) (by decide) (hdeps ⟨9, .guard⟩ (by simp) rfl)
              exact op_mov 13 rfl (wanted_of (j := 9) (d := 157) (b := false) rfl rfl g9) h7 ⟨_, rfl, Keep.refl _ _, phi_of (by decide) (by decide) (by decide) rfl⟩
            · cases ho
              have g9 : a.tmps.getD 157 undef = .bool false := phi_get (by decide) (by decide) (by decide) (hdeps ⟨9, .guard⟩ (by simp) rfl)
              have g0 : a.tmps.getD 161 undef = .pointer (some ⟨gj', 0, none⟩) := phi_get (by decide) (by decide) (by decide) (hdeps ⟨13, .data⟩ (by simp) rfl)
              refine op_call (f := 17) (vs := #[.pointer (some ⟨gj', 0, none⟩)]) 14 rfl (wanted_of (j := 9) (d := 157) (b := false) rfl rfl g9) rfl (by simp only [List.map_toArray, List.map_cons, List.map_nil, Act.eval, g0]) Try.func17 (by kernel_rfl) (by kernel_rfl) (HKE.out w' hk) ?_
              rintro e w2 ⟨rfl, k2⟩
              exact ⟨_, rfl, _, rfl, k2, phi_of (by decide) (by decide) (by decide) rfl⟩
            · cases ho
              have g9 : a.tmps.getD 157 undef = .bool false := phi_get (by decide) (by decide) (by decide) (hdeps ⟨9, .guard⟩ (by simp) rfl)
              exact op_mov 15 rfl (wanted_of (j := 9) (d := 157) (b := false) rfl rfl g9) h11 ⟨_, rfl, Keep.refl _ _, phi_of (by decide) (by decide) (by decide) rfl⟩
            · cases ho
              have g9 : a.tmps.getD 157 undef = .bool false := phi_get (by decide) (by decide) (by decide) (hdeps ⟨9, .guard⟩ (by simp) rfl)
              have g14 : a.tmps.getD 162 undef = .int .i64 (((s : Int) - 1) * (K : Int)) := phi_get (by decide) (by decide) (by decide) (hdeps ⟨14, .data⟩ (by simp) rfl)
              have g15 : a.tmps.getD 163 undef = .int .i64 (cut' : Int) := phi_get (by decide) (by decide) (by decide) (hdeps ⟨15, .data⟩ (by simp) rfl)
              refine op_run (v := .int .i64 (((s : Int) - 1) * (K : Int) - (cut' : Int))) (w' := w') 16 rfl (wanted_of (j := 9) (d := 157) (b := false) rfl rfl g9) (by go_simp) ?_
              exact ⟨_, rfl, Keep.refl _ _, phi_of (by decide) (by decide) (by decide) rfl⟩
            · cases ho
              have g9 : a.tmps.getD 157 undef = .bool false := phi_get (by decide) (by decide) (by decide) (hdeps ⟨9, .guard⟩ (by simp) rfl)
              obtain ⟨Aa, ca, ga, ra⟩ := phi_row (by decide) (hdeps ⟨11, .data⟩ (by simp) rfl)
              have ga' : a.tmps.getD 159 undef = .slice Aa L.length ca := ga
              have g12 : a.tmps.getD 160 undef = .slice A2' sure'.length a2' := phi_get (by decide) (by decide) (by decide) (hdeps ⟨12, .data⟩ (by simp) rfl)
              have g16 : a.tmps.getD 164 undef = .int .i64 (((s : Int) - 1) * (K : Int) - (cut' : Int)) := phi_get (by decide) (by decide) (by decide) (hdeps ⟨16, .data⟩ (by simp) rfl)
              refine op_call (f := 24) (vs := #[.slice Aa L.length ca, .slice A2' sure'.length a2', .int .i64 (((s : Int) - 1) * (K : Int) - (cut' : Int))]) 17 rfl (wanted_of (j := 9) (d := 157) (b := false) rfl rfl g9) rfl (by simp only [List.map_toArray, List.map_cons, List.map_nil, Act.eval, ga', g12, g16]) Try.func24 (by kernel_rfl) (by kernel_rfl) (last_yes Aa A2' ca a2' L sure' _ w' ra (Reads.of_own (own_keep0 HM2.out.sure_ hk)) HLAS.out (by have := HLL.out; omega) (by have := HJW2.out.slen; omega) (by have := HJW2.out.clen; have := HMK.out; omega) (by have := HMK.out; omega)) ?_
              rintro e w2 ⟨rfl, k2⟩
              exact ⟨_, rfl, _, rfl, k2, phi_of (by decide) (by decide) (by decide) rfl⟩
            · cases ho
              have g9 : a.tmps.getD 157 undef = .bool false := phi_get (by decide) (by decide) (by decide) (hdeps ⟨9, .guard⟩ (by simp) rfl)
              have g17 : a.tmps.getD 165 undef = .bool true := phi_get (by decide) (by decide) (by decide) (hdeps ⟨17, .data⟩ (by simp) rfl)
              refine op_run (v := .bool false) (w' := w') 18 rfl (wanted_of (j := 9) (d := 157) (b := false) rfl rfl g9) (by go_simp) ?_
              exact ⟨_, rfl, Keep.refl _ _, phi_of (by decide) (by decide) (by decide) rfl⟩
            · cases ho
              have g9 : a.tmps.getD 157 undef = .bool false := phi_get (by decide) (by decide) (by decide) (hdeps ⟨9, .data⟩ (by simp) rfl)
              have g18 : a.tmps.getD 166 undef = .bool false := phi_get (by decide) (by decide) (by decide) (hdeps ⟨18, .data⟩ (by simp) rfl)
              refine op_run (v := .bool false) (w' := w') 19 rfl rfl (by go_simp) ?_
              exact ⟨_, rfl, Keep.refl _ _, phi_of (by decide) (by decide) (by decide) rfl⟩
    · have hik : i = k := by omega
      subst hik
      have HKZ := Lib.hid hm.keep
      have HALV := Lib.hid (alive_any47 wr)
      clear hjw hm hbx
      go_wp2_with fail
      refine HALV.out.mono ?_
      rintro e w12 ⟨rfl, k12⟩
      go_wp2
      go_ret
      exact ⟨rfl, HKZ.out.then k12⟩
end Go.Proofs.Yteanpgkonhdbpaa
