/- What is programmed of a header, as iterators (header.Writes, Commits, Confirms); walked. No condition. -/
import Derived.Test.YteanpgkonhdbpaaHdrP
import Derived.Test.YteanpgkonhdbpaaBkI
namespace Go.Proofs.Yteanpgkonhdbpaa
open Go.RowKit
attribute [local go_sem] Oper.semAt_some

/-- What a round of header words keeps: pairs and heads. -/
def KpH (W W' : World) : Prop := ∀ x t cs, t = 185 ∨ t = 68 → Blk W x t cs → Blk W' x t cs
theorem KpH.refl (W : World) : KpH W W := fun _ _ _ _ h => h
theorem KpH.trans {A B C : World} (h : KpH A B) (k : KpH B C) : KpH A C := fun x t cs ht hb => k x t cs ht (h x t cs ht hb)
theorem KpH.keep0 {A B : World} (k : Keep [] A B) : KpH A B := fun _ _ _ _ hb => hb.keep0 k
theorem KpH.turn (W : World) (l : Nat) (o o' : Obj) (ho : W.heap[l]? = some o) (hc : o.isCells = false) : KpH W (W.putObj l o') := fun x t cs _ hb => blk_putObj o' hb ho hc
abbrev encHW (x : Nat × Nat) : Array Value := #[.agg #[.int .i64 (x.1 : Int), .int .u32 (x.2 : Int)]]
/-- The two words of a pair, with their places. -/
def pairH (a x : Nat) : List (Nat × Nat) := [(a, x), (a + 1, cplJ x)]
/-- The body may be called at each word of xs, in order. -/
def RoundsH (l : Nat) (xs : List (Nat × Nat)) (J Jx : List (Nat × Nat) → World → Prop) : Prop :=
  ∀ m pre x W1, J pre W1 → pre ++ [x] <+: xs → YieldAt Fence.wide m Try.prog l (encHW x) W1 fun e W' => (e = .returned (.bool true) ∧ J (pre ++ [x]) W' ∧ KpH W1 W') ∨ (e = .returned (.bool false) ∧ Jx (pre ++ [x]) W')
theorem RoundsH.shift {l : Nat} {all xs : List (Nat × Nat)} {J Jx : List (Nat × Nat) → World → Prop} (h : RoundsH l all J Jx) (pre0 : List (Nat × Nat)) (hp : pre0 ++ xs <+: all) : RoundsH l xs (fun ys => J (pre0 ++ ys)) (fun ys => Jx (pre0 ++ ys)) := by
  intro m pre x W1 hj hpre
  obtain ⟨r, hr⟩ := hpre
  refine YieldAt.mono (h m (pre0 ++ pre) x W1 hj ?_) fun e W' hw => ?_
  · rw [List.append_assoc]
    refine List.IsPrefix.trans ⟨r, ?_⟩ hp
    rw [← hr]; simp
  · simp only [List.append_assoc] at hw
    exact hw
/-- All have been handed on, or some, the body having said 'no more'. -/
def HandedH (xs : List (Nat × Nat)) (J Jx : List (Nat × Nat) → World → Prop) (W : World) (e : Ending) (W' : World) : Prop :=
  (e = .returned (.bool true) ∧ J xs W' ∧ KpH W W') ∨ (e = .returned (.bool false) ∧ ∃ pre, pre <+: xs ∧ Jx pre W')

set_option maxRecDepth 100000 in
set_option maxHeartbeats 4000000 in
theorem pairs_hands (l a x B : Nat) (J Jx : List (Nat × Nat) → World → Prop) (W : World) (hJ : AbidesFrom B J) (ha : a ≤ 1000) (hx : x < 4294967296) (hY : RoundsH l (pairH a x) J Jx) (h0 : J [] W) :
    Calls Try.prog 130 #[.func (.yield l) #[] #[], .int .i64 (a : Int), .int .u32 (x : Int)] W (HandedH (pairH a x) J Jx W) := by
  have HO : Hid (∀ W, Calls Try.prog 132 #[.int .u32 (x : Int)] W fun e w' => e = .returned (.agg #[.int .u32 (x : Int), .int .u32 ((cplJ x : Nat) : Int)]) ∧ Keep [] W w') := fun W => pof_any x W hx
  have hA : AggOf Try.prog 185 2 := ⟨by kernel_rfl, by kernel_rfl⟩
  have hwa : IntKind.i64.wrap ((a : Int) + 1) = ((a + 1 : Nat) : Int) := by rw [show (a : Int) + 1 = ((a + 1 : Nat) : Int) by omega]; exact IntWalk.i64_in _ (by omega)
  rw [← callsIn_wide (n := 9)]
  refine callsIn_of_wp Try.func130 rfl trivial ?_ rfl
  simp only [Try.ntmps130, List.size_toArray, List.length_cons, List.length_nil, Nat.reduceAdd, Nat.reduceSub, Array.replicate_succ, Array.replicate_zero, List.push_toArray, List.append_toArray, List.nil_append, List.cons_append]
  gi_wp2_with (first
    | (refine ⟨trivial, ?_⟩; refine (callsIn_wide.2 (HO.out W)).mono ?_; rintro e w1 ⟨rfl, k1⟩)
    | (refine stopIn_store 185 (.tmp 7) (.tmp 9) rfl ?_))
  constructor
  refine wpListIn_store_all rfl 185 (.tmp 7) (.tmp 9) rfl rfl rfl (vs := [.int .u32 (x : Int), .int .u32 ((cplJ x : Nat) : Int)]) hA.2 (Blk.new _ _ _) (by simp [Value.oneCell']) rfl ?_
  intro w2 d2 k2
  have k12 : Keep [] w1 w2 := ((Keep.refl [] w1).alloc _).trans k2 (fun y hy h => by simp only [List.mem_cons, List.not_mem_nil, or_false] at hy; omega)
  have K02 := k1.then k12
  have j2 : J [] w2 := abidesB hJ h0 K02
  have c70 : w2.cell? ⟨w1.heap.size, 0, none⟩ = some (.int .u32 (x : Int)) := d2.cell 0
  have HB7 := Lib.hid d2
  have HK := Lib.hid K02
  obtain ⟨fn, tmps, assign, body, hy, hR⟩ := hY 8 [] (a, x) w2 j2 ⟨[(a + 1, cplJ x)], rfl⟩
  dsimp only [encHW] at hy
  clear k1 k2 k12 K02 j2 d2
  gi_wp2
  first | refine hR.mono ?_ | refine ⟨fun h => (by cases h), hR.mono ?_⟩
  rintro e w3 (⟨rfl, j3, kr⟩ | ⟨rfl, jx⟩)
  · have d3 := kr _ _ _ (.inl rfl) HB7.out
    have c71 : w3.cell? ⟨w1.heap.size, 1, none⟩ = some (.int .u32 ((cplJ x : Nat) : Int)) := d3.cell 1
    clear hy hR
    obtain ⟨fn, tmps, assign, body, hy, hR⟩ := hY 8 [(a, x)] (a + 1, cplJ x) w3 j3 ⟨[], rfl⟩
    dsimp only [encHW] at hy
    rw [show ((a + 1 : Nat) : Int) = (a : Int) + 1 by omega] at hy
    clear d3 c70
    gi_wp2
    first | refine hR.mono ?_ | refine ⟨fun h => (by cases h), hR.mono ?_⟩
    rintro e w4 (⟨rfl, j4, kr4⟩ | ⟨rfl, jx4⟩)
    · gi_wp2
      refine bodyPost_ret (results_tmp rfl _ _ _) rfl ?_
      exact .inl ⟨rfl, j4, ((KpH.keep0 HK.out).trans kr).trans kr4⟩
    · gi_wp2
      refine bodyPost_ret (results_tmp rfl _ _ _) rfl ?_
      exact .inr ⟨rfl, _, List.prefix_refl _, jx4⟩
  · gi_wp2
    refine ⟨fun f h => (by cases h), ?_⟩
    gi_wp2
    refine bodyPost_ret (results_tmp rfl _ _ _) rfl ?_
    exact .inr ⟨rfl, [(a, x)], ⟨[(a + 1, cplJ x)], rfl⟩, jx⟩

/-- The words of a header, without that it is committed. -/
def headW (s n c : Nat) : List (Nat × Nat) := pairH 0 s ++ pairH 2 n ++ pairH 4 c
theorem writes_any (s n c : Nat) (w : World) : Calls Try.prog 109 #[.agg #[.int .u32 (s : Int), .int .u32 (n : Int), .int .u32 (c : Int)]] w fun e w' =>
    e = .returned (.func (.func 129) #[] #[.pointer (some ⟨w.heap.size, 0, none⟩)]) ∧ w.alloc (.cells #[.int .u32 (s : Int), .int .u32 (n : Int), .int .u32 (c : Int)] 68) = w' := by
  go_enter Try.func109, Try.ntmps109
  go_wp2
  go_ret
  exact ⟨rfl, rfl⟩
theorem commits_any (w : World) : Calls Try.prog 110 #[] w fun e w' => e = .returned (.func (.func 131) #[] #[]) ∧ w = w' := by
  go_enter Try.func110, Try.ntmps110
  go_wp2
  go_ret
  exact ⟨rfl, rfl⟩
theorem confirms_any (w : World) : Calls Try.prog 125 #[] w fun e w' => e = .returned (.func (.func 139) #[] #[]) ∧ w = w' := by
  go_enter Try.func125, Try.ntmps125
  go_wp2
  go_ret
  exact ⟨rfl, rfl⟩

set_option maxRecDepth 100000 in
set_option maxHeartbeats 4000000 in
theorem commits1_seq (n : Nat) (w : World) : SeqP Fence.wide n Try.prog 131 #[] encHW KpH (pairH 6 1668246893) w := by
  intro l0 J Jx W hW hJ hJx hY h0
  have hR : RoundsH l0 (pairH 6 1668246893) J Jx := fun m pre y W1 hj hp => yieldAt_any open_wide (hY pre y W1 hj hp)
  have HP : Hid (Calls Try.prog 130 #[.func (.yield l0) #[] #[], .int .i64 6, .int .u32 1668246893] W (HandedH (pairH 6 1668246893) J Jx W)) := pairs_hands l0 6 1668246893 _ J Jx W hJ (by decide) (by decide) hR h0
  refine callsIn_of_wp Try.func131 rfl trivial ?_ rfl
  simp only [Try.ntmps131, List.size_toArray, List.length_cons, List.length_nil, Nat.reduceAdd, Nat.reduceSub, Array.replicate_succ, Array.replicate_zero, List.push_toArray, List.append_toArray, List.nil_append, List.cons_append]
  gi_wp2_with (refine ⟨trivial, fun h => (by cases h), ?_⟩; refine (callsIn_wide.2 HP.out).mono ?_)
  rintro e w' (⟨rfl, hj, _⟩ | ⟨rfl, pre, hp, hx⟩)
  · gi_wp2
    go_end0
    exact ⟨⟨_, rfl⟩, .inl hj⟩
  · gi_wp2
    go_end0
    exact ⟨⟨_, rfl⟩, .inr ⟨pre, hp, hx⟩⟩

set_option maxRecDepth 100000 in
set_option maxHeartbeats 4000000 in
theorem confirms1_seq (n : Nat) (w : World) : SeqP Fence.wide n Try.prog 139 #[] encHW KpH (pairH 8 1668247142) w := by
  intro l0 J Jx W hW hJ hJx hY h0
  have hR : RoundsH l0 (pairH 8 1668247142) J Jx := fun m pre y W1 hj hp => yieldAt_any open_wide (hY pre y W1 hj hp)
  have HP : Hid (Calls Try.prog 130 #[.func (.yield l0) #[] #[], .int .i64 8, .int .u32 1668247142] W (HandedH (pairH 8 1668247142) J Jx W)) := pairs_hands l0 8 1668247142 _ J Jx W hJ (by decide) (by decide) hR h0
  refine callsIn_of_wp Try.func139 rfl trivial ?_ rfl
  simp only [Try.ntmps139, List.size_toArray, List.length_cons, List.length_nil, Nat.reduceAdd, Nat.reduceSub, Array.replicate_succ, Array.replicate_zero, List.push_toArray, List.append_toArray, List.nil_append, List.cons_append]
  gi_wp2_with (refine ⟨trivial, fun h => (by cases h), ?_⟩; refine (callsIn_wide.2 HP.out).mono ?_)
  rintro e w' (⟨rfl, hj, _⟩ | ⟨rfl, pre, hp, hx⟩)
  · gi_wp2
    go_end0
    exact ⟨⟨_, rfl⟩, .inl hj⟩
  · gi_wp2
    go_end0
    exact ⟨⟨_, rfl⟩, .inr ⟨pre, hp, hx⟩⟩

set_option maxRecDepth 100000 in
set_option maxHeartbeats 4000000 in
theorem writes1_seq (n : Nat) (s m c Bh : Nat) (w : World) (hs : s < 4294967296) (hm : m < 4294967296) (hc : c < 4294967296) (hB : Blk w Bh 68 #[.int .u32 (s : Int), .int .u32 (m : Int), .int .u32 (c : Int)]) :
    SeqP Fence.wide n Try.prog 129 #[.pointer (some ⟨Bh, 0, none⟩)] encHW KpH (headW s m c) w := by
  intro l0 J Jx W hW hJ hJx hY h0
  have hk0 : Keep [] w W := keepB hW
  have hR : RoundsH l0 (headW s m c) J Jx := fun m pre y W1 hj hp => yieldAt_any open_wide (hY pre y W1 hj hp)
  have HB := Lib.hid (hB.keep0 hk0)
  have d0 : W.cell? ⟨Bh, 0, none⟩ = some (.int .u32 (s : Int)) := HB.out.cell 0
  have HP : Hid (Calls Try.prog 130 #[.func (.yield l0) #[] #[], .int .i64 0, .int .u32 (s : Int)] W (HandedH (pairH 0 s) J Jx W)) :=
    pairs_hands l0 0 s _ J Jx W hJ (by decide) hs (hR.shift [] ⟨pairH 2 m ++ pairH 4 c, by simp [headW]⟩) h0
  clear hB hW hk0 hY
  refine callsIn_of_wp Try.func129 rfl trivial ?_ rfl
  simp only [Try.ntmps129, List.size_toArray, List.length_cons, List.length_nil, Nat.reduceAdd, Nat.reduceSub, Array.replicate_succ, Array.replicate_zero, List.push_toArray, List.append_toArray, List.nil_append, List.cons_append]
  gi_wp2_with (refine ⟨trivial, fun h => (by cases h), ?_⟩; refine (callsIn_wide.2 HP.out).mono ?_)
  rintro e w1 (⟨rfl, hj, hk⟩ | ⟨rfl, pre, hp, hx⟩)
  · have HB1 := Lib.hid (hk _ _ _ (.inr rfl) HB.out)
    have d1 : w1.cell? ⟨Bh, 1, none⟩ = some (.int .u32 (m : Int)) := HB1.out.cell 1
    have HP2 : Hid (Calls Try.prog 130 #[.func (.yield l0) #[] #[], .int .i64 2, .int .u32 (m : Int)] w1 (HandedH (pairH 2 m) (fun ys => J (pairH 0 s ++ ys)) (fun ys => Jx (pairH 0 s ++ ys)) w1)) :=
      pairs_hands l0 2 m W.heap.size _ _ w1 (fun q X Y row hs hg hr => hJ (pairH 0 s ++ q) X Y row hs hg hr) (by decide) hm (hR.shift (pairH 0 s) ⟨pairH 4 c, by simp [headW]⟩) (by simpa using hj)
    clear hk hj d0
    gi_wp2_with (refine ⟨trivial, fun h => (by cases h), ?_⟩; refine (callsIn_wide.2 HP2.out).mono ?_)
    rintro e w2 (⟨rfl, hj, hk⟩ | ⟨rfl, pre, hp, hx⟩)
    · have HB2 := Lib.hid (hk _ _ _ (.inr rfl) HB1.out)
      have d2 : w2.cell? ⟨Bh, 2, none⟩ = some (.int .u32 (c : Int)) := HB2.out.cell 2
      have HP3 : Hid (Calls Try.prog 130 #[.func (.yield l0) #[] #[], .int .i64 4, .int .u32 (c : Int)] w2 (HandedH (pairH 4 c) (fun ys => J ((pairH 0 s ++ pairH 2 m) ++ ys)) (fun ys => Jx ((pairH 0 s ++ pairH 2 m) ++ ys)) w2)) :=
        pairs_hands l0 4 c W.heap.size _ _ w2 (fun q X Y row hs hg hr => hJ ((pairH 0 s ++ pairH 2 m) ++ q) X Y row hs hg hr) (by decide) hc (hR.shift (pairH 0 s ++ pairH 2 m) ⟨[], by simp [headW]⟩) (by simpa using hj)
      clear hk hj d1
      gi_wp2_with (refine ⟨trivial, fun h => (by cases h), ?_⟩; refine (callsIn_wide.2 HP3.out).mono ?_)
      rintro e w3 (⟨rfl, hj, hk⟩ | ⟨rfl, pre, hp, hx⟩)
      · gi_wp2
        go_end0
        exact ⟨⟨_, rfl⟩, .inl hj⟩
      · gi_wp2
        go_end0
        obtain ⟨r, hr⟩ := hp
        exact ⟨⟨_, rfl⟩, .inr ⟨_, ⟨r, by rw [List.append_assoc, hr]; rfl⟩, hx⟩⟩
    · gi_wp2_with (refine ⟨trivial, ?_⟩; go_at_K)
      go_end0
      obtain ⟨r, hr⟩ := hp
      exact ⟨⟨_, rfl⟩, .inr ⟨_, ⟨r ++ pairH 4 c, by rw [← List.append_assoc, List.append_assoc _ pre, hr]; rfl⟩, hx⟩⟩
  · gi_wp2_with (refine ⟨trivial, ?_⟩; go_at_K)
    go_end0
    obtain ⟨r, hr⟩ := hp
    exact ⟨⟨_, rfl⟩, .inr ⟨pre, ⟨r ++ (pairH 2 m ++ pairH 4 c), by rw [← List.append_assoc, hr]; simp [headW]⟩, hx⟩⟩
end Go.Proofs.Yteanpgkonhdbpaa
