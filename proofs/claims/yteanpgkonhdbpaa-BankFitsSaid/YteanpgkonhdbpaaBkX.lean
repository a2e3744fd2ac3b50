/- bank.write, walked: words of the header are programmed. Condition: the device is one that may be, the bank one that fits. -/
import Derived.Test.YteanpgkonhdbpaaBkE
import Derived.Test.YteanpgkonhdbpaaBkW
namespace Go.Proofs.Yteanpgkonhdbpaa
open Go.RowKit
attribute [local go_sem] Oper.semAt_some

def progsH (d : Dev) (s : Nat) : List (Nat × Nat) → Dev × Int
  | [] => (d, 0)
  | x :: l => if (progS d (s : Int) (x.1 : Int) x.2).2 = 0 then progsH (progS d (s : Int) (x.1 : Int) x.2).1 s l else progS d (s : Int) (x.1 : Int) x.2
theorem progsH_app : ∀ (l r : List (Nat × Nat)) (d d' : Dev) (s : Nat), progsH d s l = (d', 0) → progsH d s (l ++ r) = progsH d' s r
  | [], r, d, d', s, h => by
    have h1 : d = d' := congrArg Prod.fst h
    rw [h1]; rfl
  | x :: l, r, d, d', s, h => by
    rw [progsH] at h
    rw [List.cons_append, progsH]
    split at h
    · rename_i h0
      rw [if_pos h0]
      exact progsH_app l r _ d' s h
    · rename_i h0
      exact absurd (congrArg Prod.snd h) h0
theorem progsH_one (d : Dev) (s : Nat) (x : Nat × Nat) : progsH d s [x] = progS d (s : Int) (x.1 : Int) x.2 := by
  rw [progsH]
  split
  · rename_i h0
    show ((progS d (s : Int) (x.1 : Int) x.2).1, (0 : Int)) = _
    rw [← h0]
  · rfl
theorem progsH_stop : ∀ (l r : List (Nat × Nat)) (d d' : Dev) (s : Nat) (e : Int), progsH d s l = (d', e) → e ≠ 0 → progsH d s (l ++ r) = (d', e)
  | [], r, d, d', s, e, h, he => absurd (congrArg Prod.snd h).symm he
  | x :: l, r, d, d', s, e, h, he => by
    rw [progsH] at h
    rw [List.cons_append, progsH]
    split at h
    · rename_i h0
      rw [if_pos h0]
      exact progsH_stop l r _ d' s e h he
    · rename_i h0
      rw [if_neg h0]
      exact h
theorem progsH_ok : ∀ (l : List (Nat × Nat)) (d : Dev) (s : Nat), d.Ok → (∀ x ∈ l, x.2 < 4294967296) → (progsH d s l).1.Ok ∧ DimsJ d (progsH d s l).1
  | [], d, s, h, _ => ⟨h, DimsJ.refl d⟩
  | x :: l, d, s, h, hl => by
    rw [progsH]
    have h1 := progS_ok h (s : Int) (x.1 : Int) x.2 (hl x (by simp))
    have h2 := prog_dims d (s : Int) (x.1 : Int) x.2
    split
    · obtain ⟨h3, h4⟩ := progsH_ok l _ s h1 (fun y hy => hl y (by simp [hy]))
      exact ⟨h3, h2.trans h4⟩
    · exact ⟨h1, h2⟩

theorem BegAt.own {w : World} {gb g b1 b2 : Nat} {d : Dev} {b : BkS} {e : Int} {B : Nat} (hB : w.heap.size ≤ B) : OwnFrom B (fun (_ : Unit) W => BegAt w W gb g b1 b2 d b e) := by
  intro _ X Y row h hg hr
  exact ⟨⟨blk_own (β := Unit) _ _ (fun _ => _) () X Y row h.dev.dev hg hr, blk_own (β := Unit) _ _ (fun _ => _) () X Y row h.dev.bits hg hr, blk_own (β := Unit) _ _ (fun _ => _) () X Y row h.dev.worn hg hr⟩, blk_own (β := Unit) _ _ (fun _ => _) () X Y row h.bank hg hr, blk_own (β := Unit) _ _ (fun _ => _) () X Y row h.box hg hr, blk_own (β := Unit) _ _ (fun _ => _) () X Y row h.err hg hr, keep_own (β := Unit) hB () X Y row h.keep hg hr⟩

section
variable (gb g b1 b2 : Nat) (d : Dev) (b : BkS) (w : World) (hb : BankAt w gb g b) (hd : DevAt w g b1 b2 d) (ho : d.Ok) (hk : BkOk d b)
include hb hd ho hk
set_option maxRecDepth 100000 in
set_option maxHeartbeats 8000000 in
theorem bwrite_any (f : Nat) (lb : Array Value) (xs : List (Nat × Nat)) (hxs : ∀ x ∈ xs, x.2 < 4294967296) (hseq : ∀ W, Keep [] w W → SeqP Fence.wide 8 Try.prog f lb encHW KpH xs W) (eg : ∀ args W, (callFunc f args).run Try.prog W = .ok (.enter f args) W) :
    Calls Try.prog 108 #[.pointer (some ⟨gb, 0, none⟩), .func (.func f) #[] lb] w fun e w' => e = .returned (.int .i64 (progsH d (b.base + 1) xs).2) ∧ LeftB w w' gb g b1 b2 (progsH d (b.base + 1) xs).1 b := by
  have hns := ho.ns2
  have hf := hk.fits
  have h3 := hk.three
  obtain ⟨W0, hW0⟩ : ∃ W0, (w.alloc (.cells #[.pointer (some ⟨gb, 0, none⟩)] 60)).alloc (.cells #[.int .i64 0] 25) = W0 := ⟨_, rfl⟩
  have K0 : Keep [] w W0 := by rw [← hW0]; exact ((Keep.refl _ w).alloc _).alloc _
  have e1 : Blk W0 w.heap.size 60 #[.pointer (some ⟨gb, 0, none⟩)] := by rw [← hW0]; exact (Blk.new _ _ _).alloc _
  have e2 : Blk W0 (w.heap.size + 1) 25 #[.int .i64 0] := by
    rw [← hW0]; have := Blk.new (w.alloc (.cells #[.pointer (some ⟨gb, 0, none⟩)] 60)) 25 #[.int .i64 0]; rw [World.size_alloc] at this; exact this
  have hsz : W0.heap.size = w.heap.size + 2 := by rw [← hW0]; simp
  have HI0 : Hid (BegAt w W0 gb g b1 b2 d b 0) := ⟨hd.keep0 K0, hb.keep0 K0, e1, e2, K0.mono (by simp)⟩
  have HW0 := Lib.hid hW0
  have HO := Lib.hid ho
  have HX := Lib.hid hxs
  have hgw : gb < w.heap.size ∧ g < w.heap.size ∧ b1 < w.heap.size ∧ b2 < w.heap.size := ⟨Blk.lt hb, hd.dev.lt, hd.bits.lt, hd.worn.lt⟩
  have hsq := hseq W0 K0
  have HR0 : Hid (∃ r, progsH d (b.base + 1) xs = r) := ⟨_, rfl⟩
  have hwb : IntKind.i64.wrap ((b.base : Int) + 1) = ((b.base + 1 : Nat) : Int) := by rw [show (b.base : Int) + 1 = ((b.base + 1 : Nat) : Int) by omega]; exact IntWalk.i64_in _ (by omega)
  have hnn := fun f x y => run_neq_func_nil (P := Try.prog) Try.underlying177 f x y
  have hA2 : AggOf Try.prog 200 2 := ⟨by kernel_rfl, by kernel_rfl⟩
  clear hb hd ho hk K0 e1 e2 hW0 hseq hxs
  rw [← callsIn_wide (n := 9)]
  refine callsIn_of_wp_marks Try.func108 rfl trivial ?_ rfl
  simp only [Try.ntmps108, List.size_toArray, List.length_cons, List.length_nil, Nat.reduceAdd, Nat.reduceSub, Array.replicate_succ, Array.replicate_zero, List.push_toArray, List.append_toArray, List.nil_append, List.cons_append]
  gi_wp2_with (rw [HW0.out])
  clear HW0
  refine wpIn_rangeB (F := Fence.wide) (n := 9) (Lo := fun _ _ => False) (ps := #[8]) rfl (by omega) (gf := f) (lb := lb) rfl trivial eg
    (hsq.toT _) KpH.trans (fun W o o' ho hc => KpH.turn W _ o o' ho hc) (Below.refl _ _) (fun _ => rfl)
    (fun pre W => ∃ d', progsH d (b.base + 1) pre = (d', 0) ∧ d'.Ok ∧ BegAt w W gb g b1 b2 d' b 0)
    (fun c pre W => c = .ret ∧ ∃ d' e, progsH d (b.base + 1) pre = (d', e) ∧ e ≠ 0 ∧ BegAt w W gb g b1 b2 d' b e)
    ?hI ?hIx ⟨d, rfl, HO.out, HI0.out⟩
    (fun x a1 W => ∃ g5 : Nat, Blk W g5 200 #[.int .i64 (x.1 : Int), .int .u32 (x.2 : Int)] ∧ a1 = { tmps := #[.pointer (some ⟨gb, 0, none⟩), .func (.func f) #[] lb, .pointer (some ⟨w.heap.size, 0, none⟩), undef, .pointer (some ⟨w.heap.size + 1, 0, none⟩), .pointer (some ⟨g5, 0, none⟩), undef, .func (.func f) #[] lb, .agg #[.int .i64 (x.1 : Int), .int .u32 (x.2 : Int)], undef, undef, undef, undef, undef, undef, undef, undef, undef, undef, undef, undef, undef, undef, undef, undef, undef], defers := [] })
    ?hPA (fun W W2 _ hk => KpH.keep0 hk) ?assign ?body ?done ?stop
  case hI =>
    refine OwnFrom.toT ?_
    rintro pre X Y row ⟨d', h1, h2, h4⟩ hg hr
    exact ⟨d', h1, h2, BegAt.own (by omega) () X Y row h4 hg hr⟩
  case hIx =>
    intro c
    refine OwnFrom.toT ?_
    rintro pre X Y row ⟨h0, d', e, h1, h2, h4⟩ hg hr
    exact ⟨h0, d', e, h1, h2, BegAt.own (by omega) () X Y row h4 hg hr⟩
  case hPA =>
    rintro x a1 _ X Y row ⟨g5, h1, h2⟩ hg hr
    exact ⟨g5, blk_own (β := Unit) _ _ (fun _ => _) () X Y row h1 hg hr, h2⟩
  case assign =>
    rintro l x W K' hW hK'
    gi_wp2_with (refine stopIn_store 200 (.tmp 5) (.tmp 8) rfl ?_)
    constructor
    refine wpListIn_store_all rfl 200 (.tmp 5) (.tmp 8) rfl rfl rfl (vs := [.int .i64 (x.1 : Int), .int .u32 (x.2 : Int)]) hA2.2 (Blk.new _ _ _) (by simp [Value.oneCell']) rfl ?_
    intro W1 d1 kk1
    have kr : Keep [] W W1 := ((Keep.refl [] W).alloc _).trans kk1 (fun y hy h => by simp only [List.mem_cons, List.not_mem_nil, or_false] at hy; omega)
    gi_wp2
    exact hK' _ _ kr ⟨_, d1, rfl⟩
  case body =>
    rintro l pre x a1 W hW ⟨d', hp, hok, hin⟩ ⟨g5, hb5, rfl⟩ hpre
    have hxm : x.2 < 4294967296 := HX.out x (hpre.subset (by simp))
    have hG : ∀ W', Keep [] W W' → W'.cell? ⟨w.heap.size, 0, none⟩ = some (.pointer (some ⟨gb, 0, none⟩)) ∧ W'.cell? ⟨gb, 0, none⟩ = some (.pointer (some ⟨g, 0, none⟩)) ∧ W'.cell? ⟨gb, 1, none⟩ = some (.int .i64 (b.base : Int)) ∧ W'.cell? ⟨g5, 0, none⟩ = some (.int .i64 (x.1 : Int)) ∧ W'.cell? ⟨g5, 1, none⟩ = some (.int .u32 (x.2 : Int)) := fun W' k => by
      obtain ⟨f1, f2, f3, _⟩ := (hin.keep0 k).facts
      exact ⟨f1, f2, f3, (hb5.keep0 k).cell 0, (hb5.keep0 k).cell 1⟩
    have HPR : Hid (∀ W', Keep [] W W' → Calls Try.prog 67 #[.pointer (some ⟨g, 0, none⟩), .int .i64 ((b.base + 1 : Nat) : Int), .int .i64 (x.1 : Int), .int .u32 (x.2 : Int)] W' (Leaves W' g b1 b2 (progS d' ((b.base + 1 : Nat) : Int) (x.1 : Int) x.2).1 (progS d' ((b.base + 1 : Nat) : Int) (x.1 : Int) x.2).2)) := fun W' k => fprog_any g b1 b2 d' _ _ x.2 W' (hin.keep0 k).dev hok hxm
    have HSN : Hid (progsH d (b.base + 1) (pre ++ [x]) = progS d' ((b.base + 1 : Nat) : Int) (x.1 : Int) x.2) := by show _ = _; rw [progsH_app pre [x] d d' _ hp, progsH_one]
    have HOE : Hid ((progS d' ((b.base + 1 : Nat) : Int) (x.1 : Int) x.2).1.Ok) := progS_ok hok _ _ _ hxm
    have HIN := Lib.hid hin
    obtain ⟨d5, e5, he5⟩ : ∃ d5 e5, progS d' ((b.base + 1 : Nat) : Int) (x.1 : Int) x.2 = (d5, e5) := ⟨_, _, rfl⟩
    rw [he5] at HPR HSN HOE
    dsimp only at HPR HOE
    clear he5 hin hp hok hb5 hpre
    gi_wp2
    refine bjB_start 13 (Keep [] W) (open_round _) rfl rfl (Keep.refl _ _).drew (fun hS hPan => ?_)
    (refine ap_val (v := ?_) 0 rfl (by kernel_rfl) (by kernel_rfl) (by kernel_rfl) (by kernel_rfl) (by rfl) hPan ?_ hS ?_; rotate_left; (intro w' hSw; obtain ⟨f0,f1,f2,f3,f4⟩ := hG w' hSw; go_simp; try with_reducible rfl); simp only [Act.put, List.setIfInBounds_toArray, List.set_cons_zero, List.set_cons_succ])
    (refine ap_val (v := ?_) 1 rfl (by kernel_rfl) (by kernel_rfl) (by kernel_rfl) (by kernel_rfl) (by rfl) hPan ?_ hS ?_; rotate_left; (intro w' hSw; go_simp; try with_reducible rfl); simp only [Act.put, List.setIfInBounds_toArray, List.set_cons_zero, List.set_cons_succ])
    (refine ap_val (v := ?_) 2 rfl (by kernel_rfl) (by kernel_rfl) (by kernel_rfl) (by kernel_rfl) (by rfl) hPan ?_ hS ?_; rotate_left; (intro w' hSw; go_simp; try with_reducible rfl); simp only [Act.put, List.setIfInBounds_toArray, List.set_cons_zero, List.set_cons_succ])
    (refine ap_val (v := ?_) 3 rfl (by kernel_rfl) (by kernel_rfl) (by kernel_rfl) (by kernel_rfl) (by rfl) hPan ?_ hS ?_; rotate_left; (intro w' hSw; obtain ⟨f0,f1,f2,f3,f4⟩ := hG w' hSw; go_simp; try with_reducible rfl); simp only [Act.put, List.setIfInBounds_toArray, List.set_cons_zero, List.set_cons_succ])
    (refine ap_val (v := ?_) 4 rfl (by kernel_rfl) (by kernel_rfl) (by kernel_rfl) (by kernel_rfl) (by rfl) hPan ?_ hS ?_; rotate_left; (intro w' hSw; obtain ⟨f0,f1,f2,f3,f4⟩ := hG w' hSw; go_simp; try with_reducible rfl); simp only [Act.put, List.setIfInBounds_toArray, List.set_cons_zero, List.set_cons_succ])
    (refine ap_val (v := ?_) 5 rfl (by kernel_rfl) (by kernel_rfl) (by kernel_rfl) (by kernel_rfl) (by rfl) hPan ?_ hS ?_; rotate_left; (intro w' hSw; go_simp; try with_reducible rfl); simp only [Act.put, List.setIfInBounds_toArray, List.set_cons_zero, List.set_cons_succ])
    (refine ap_val (v := ?_) 6 rfl (by kernel_rfl) (by kernel_rfl) (by kernel_rfl) (by kernel_rfl) (by rfl) hPan ?_ hS ?_; rotate_left; (intro w' hSw; go_simp; try with_reducible rfl); simp only [Act.put, List.setIfInBounds_toArray, List.set_cons_zero, List.set_cons_succ])
    (refine ap_val (v := ?_) 7 rfl (by kernel_rfl) (by kernel_rfl) (by kernel_rfl) (by kernel_rfl) (by rfl) hPan ?_ hS ?_; rotate_left; (intro w' hSw; obtain ⟨f0,f1,f2,f3,f4⟩ := hG w' hSw; go_simp; try with_reducible rfl); simp only [Act.put, List.setIfInBounds_toArray, List.set_cons_zero, List.set_cons_succ])
    (refine ap_val (v := ?_) 8 rfl (by kernel_rfl) (by kernel_rfl) (by kernel_rfl) (by kernel_rfl) (by rfl) hPan ?_ hS ?_; rotate_left; (intro w' hSw; go_simp; try with_reducible rfl); simp only [Act.put, List.setIfInBounds_toArray, List.set_cons_zero, List.set_cons_succ])
    (refine ap_val (v := ?_) 9 rfl (by kernel_rfl) (by kernel_rfl) (by kernel_rfl) (by kernel_rfl) (by rfl) hPan ?_ hS ?_; rotate_left; (intro w' hSw; go_simp; try with_reducible rfl); simp only [Act.put, List.setIfInBounds_toArray, List.set_cons_zero, List.set_cons_succ])
    (refine ap_val (v := ?_) 10 rfl (by kernel_rfl) (by kernel_rfl) (by kernel_rfl) (by kernel_rfl) (by rfl) hPan ?_ hS ?_; rotate_left; (intro w' hSw; obtain ⟨f0,f1,f2,f3,f4⟩ := hG w' hSw; go_simp; try with_reducible rfl); simp only [Act.put, List.setIfInBounds_toArray, List.set_cons_zero, List.set_cons_succ])
    (refine ap_val (v := ?_) 11 rfl (by kernel_rfl) (by kernel_rfl) (by kernel_rfl) (by kernel_rfl) (by rfl) hPan ?_ hS ?_; rotate_left; (intro w' hSw; go_simp; try with_reducible rfl); simp only [Act.put, List.setIfInBounds_toArray, List.set_cons_zero, List.set_cons_succ])
    (refine ap_val (v := ?_) 12 rfl (by kernel_rfl) (by kernel_rfl) (by kernel_rfl) (by kernel_rfl) (by rfl) hPan ?_ hS ?_; rotate_left; (intro w' hSw; obtain ⟨f0,f1,f2,f3,f4⟩ := hG w' hSw; go_simp; try with_reducible rfl); simp only [Act.put, List.setIfInBounds_toArray, List.set_cons_zero, List.set_cons_succ])
    generalize W.drew = wd at *
    refine ap_one 13 (by kernel_rfl) ?_
    refine op_call (f := 67) (vs := #[.pointer (some ⟨g, 0, none⟩), .int .i64 ((b.base + 1 : Nat) : Int), .int .i64 (x.1 : Int), .int .u32 (x.2 : Int)]) 13 rfl (by kernel_rfl) rfl (by simp only [List.map_toArray, List.map_cons, List.map_nil]; rfl) Try.func67 (by kernel_rfl) (by kernel_rfl) (HPR.out wd hS) ?_
    rintro e w5 ⟨rfl, hd5, k5⟩
    refine ⟨_, rfl, fun h => (by cases h), ?_⟩
    (simp only [Act.put, List.setIfInBounds_toArray, List.set_cons_zero, List.set_cons_succ])
    refine ap_one 14 (by kernel_rfl) ?_
    refine op_run (v := .int .i64 e5) (w' := w5) 14 rfl (by kernel_rfl) (by go_simp) ?_
    refine ⟨fun h => (by cases h), bjB_end (by kernel_rfl) ?_ _⟩
    (simp only [Act.put, List.setIfInBounds_toArray, List.set_cons_zero, List.set_cons_succ])
    have HI5 : Hid (BegAt w w5 gb g b1 b2 d5 b 0) := (HIN.out.keep0 hS).turn hd5 k5
    have hKF : Keep [g, b1, b2] W w5 := (hS.mono (by simp)).trans k5 (fun y hy _ => hy)
    obtain ⟨_, _, _, f4, f5⟩ := HI5.out.facts
    by_cases hz5 : e5 = 0
    · subst hz5
      have hk5 : KpH W w5 := fun y t cs ht hb => (hb.keep0 hS).keep k5 (fun hm => by
        simp only [List.mem_cons, List.not_mem_nil, or_false] at hm
        have hi := HIN.out.keep0 hS
        have hb' := hb.keep0 hS
        rcases hm with rfl | rfl | rfl
        · rcases ht with rfl | rfl <;> exact absurd rfl (Blk.ne_ hb' hi.dev.dev (by decide))
        · rcases ht with rfl | rfl <;> exact absurd rfl (Blk.ne_ hb' hi.dev.bits (by decide))
        · rcases ht with rfl | rfl <;> exact absurd rfl (Blk.ne_ hb' hi.dev.worn (by decide)))
      have HK5 := Lib.hid hk5
      have HKF := Lib.hid hKF
      clear hPan hG HPR hS hd5 k5 hk5 hKF
      gi_wp2
      exact ⟨HKF.out.from (fun y hy => .inl (by simp only [List.mem_cons, List.not_mem_nil, or_false] at hy; omega)), HK5.out, d5, HSN.out, HOE.out, HI5.out⟩
    · have q0 : (e5 == 0) = false := beq_eq_false_iff_ne.2 hz5
      have q1 : (e5 = 0) = False := eq_false hz5
      have q2 : (e5 != 0) = true := bne_iff_ne.2 hz5
      have hk5 : KpH W w5 := fun y t cs ht hb => (hb.keep0 hS).keep k5 (fun hm => by
        simp only [List.mem_cons, List.not_mem_nil, or_false] at hm
        have hi := HIN.out.keep0 hS
        have hb' := hb.keep0 hS
        rcases hm with rfl | rfl | rfl
        · rcases ht with rfl | rfl <;> exact absurd rfl (Blk.ne_ hb' hi.dev.dev (by decide))
        · rcases ht with rfl | rfl <;> exact absurd rfl (Blk.ne_ hb' hi.dev.bits (by decide))
        · rcases ht with rfl | rfl <;> exact absurd rfl (Blk.ne_ hb' hi.dev.worn (by decide)))
      have hkst := keep_set w5 (w.heap.size + 1) 0 (.int .i64 e5)
      have hk6 : KpH W (w5.setCell ⟨w.heap.size + 1, 0, none⟩ (.int .i64 e5)) := hk5.trans (fun y t cs ht hb => hb.keep hkst (fun hm => by
        simp only [List.mem_cons, List.not_mem_nil, or_false] at hm
        subst hm
        rcases ht with rfl | rfl <;> exact absurd rfl (Blk.ne_ hb HI5.out.err (by decide))))
      have HK6 := Lib.hid hk6
      have hKG : Keep [g, b1, b2, w.heap.size + 1] W (w5.setCell ⟨w.heap.size + 1, 0, none⟩ (.int .i64 e5)) := (hKF.mono (by simp)).trans hkst (fun y hy _ => by simp only [List.mem_cons, List.not_mem_nil, or_false] at hy ⊢; omega)
      have HKG := Lib.hid hKG
      clear hPan hG HPR hS hd5 k5 hk5 hKF hkst hk6 hKG
      gi_wp2
      exact ⟨HKG.out.from (fun y hy => .inl (by simp only [List.mem_cons, List.not_mem_nil, or_false] at hy; omega)), HK6.out, rfl, d5, e5, HSN.out, hz5, HI5.out.setErr e5⟩
  case done =>
    rintro D W hD ⟨d', hp, hok, hin⟩ hD2
    have HR : Hid (progsH d (b.base + 1) xs = (d', 0)) := hp
    obtain ⟨_, _, _, f4, f5⟩ := hin.facts
    have hDg : D < W.heap.size := (Array.getElem?_eq_some_iff.1 hD2).1
    have HIN := Lib.hid hin
    clear hin hp
    gi_wp2
    have hE := HIN.out.setErr 0
    have hD4 : (W.setCell ⟨w.heap.size + 1, 0, none⟩ (.int .i64 0)).heap[D]? = some (.deferred (some [])) := ((keep_set W (w.heap.size + 1) 0 (.int .i64 0)).block D hDg (by simp; omega)).trans hD2
    refine leavesM_marksB [D] _ (by simp) (fun D' hD' => by simp at hD'; subst hD'; exact hD4) (fun W' hk => ?_)
    have hm1 : ∀ x t cs, Blk (W.setCell ⟨w.heap.size + 1, 0, none⟩ (.int .i64 0)) x t cs → x ∉ [D] := fun x t cs hb hm => by
      simp only [List.mem_cons, List.not_mem_nil, or_false] at hm
      subst hm
      rw [show (W.setCell ⟨w.heap.size + 1, 0, none⟩ (.int .i64 0)).heap[x]? = _ from hb] at hD4
      cases hD4
    have hz : BegAt w W' gb g b1 b2 d' b 0 := ⟨⟨hE.dev.dev.keep hk (hm1 _ _ _ hE.dev.dev), hE.dev.bits.keep hk (hm1 _ _ _ hE.dev.bits), hE.dev.worn.keep hk (hm1 _ _ _ hE.dev.worn)⟩, Blk.keep hE.bank hk (hm1 _ _ _ hE.bank), hE.box.keep hk (hm1 _ _ _ hE.box), hE.err.keep hk (hm1 _ _ _ hE.err), hE.keep.trans hk (fun y hy hl => by simp only [List.mem_cons, List.not_mem_nil, or_false] at hy; omega)⟩
    have m1 : W'.cell? ⟨w.heap.size + 1, 0, none⟩ = some (.int .i64 0) := hz.facts.2.2.2.1
    refine ⟨.int .i64 0, by simp [results, Try.results108, go_sem, m1], ?_⟩
    rw [HR.out]
    exact ⟨rfl, hz.left⟩
  case stop =>
    rintro D c pre W _ hpre ⟨rfl, d', e, hp, he, hin⟩ hD2
    have HR : Hid (progsH d (b.base + 1) xs = (d', e)) := by
      show _ = _
      obtain ⟨r, hr⟩ := hpre
      have := progsH_stop pre r d d' _ e hp he
      rw [hr] at this
      exact this
    have hE := hin
    gi_wp2
    refine leavesM_marksB [D] W (by simp) (fun D' hD' => by simp at hD'; subst hD'; exact hD2) (fun W' hk => ?_)
    have hm1 : ∀ x t cs, Blk W x t cs → x ∉ [D] := fun x t cs hb hm => by
      simp only [List.mem_cons, List.not_mem_nil, or_false] at hm
      subst hm
      rw [show W.heap[x]? = _ from hb] at hD2
      cases hD2
    have hz : BegAt w W' gb g b1 b2 d' b e := ⟨⟨hE.dev.dev.keep hk (hm1 _ _ _ hE.dev.dev), hE.dev.bits.keep hk (hm1 _ _ _ hE.dev.bits), hE.dev.worn.keep hk (hm1 _ _ _ hE.dev.worn)⟩, Blk.keep hE.bank hk (hm1 _ _ _ hE.bank), hE.box.keep hk (hm1 _ _ _ hE.box), hE.err.keep hk (hm1 _ _ _ hE.err), hE.keep.trans hk (fun y hy hl => by simp only [List.mem_cons, List.not_mem_nil, or_false] at hy; omega)⟩
    have m1 : W'.cell? ⟨w.heap.size + 1, 0, none⟩ = some (.int .i64 e) := hz.facts.2.2.2.1
    refine ⟨.int .i64 e, by simp [results, Try.results108, go_sem, m1], ?_⟩
    rw [HR.out]
    exact ⟨rfl, hz.left⟩
end
end Go.Proofs.Yteanpgkonhdbpaa
