/- A store's candidates as an iterator; walked. Condition: the device is one that may be, of at least six sectors of thirteen words. The law's row of candidates (law09's list); walked. Condition: the device is one that may be, of at least six sectors of thirteen words. -/
import Derived.Test.YteanpgkonhdbpaaSrF
import Derived.Test.YteanpgkonhdbpaaRangeQ
import Derived.Test.YteanpgkonhdbpaaJrOpen
import Derived.Test.YteanpgkonhdbpaaJrHelp
import Derived.Great.BuildSlice
namespace Go.Proofs.Yteanpgkonhdbpaa
open Go.RowKit
attribute [local go_sem] Oper.semAt_some

/-- All candidates, in their order. -/
def candsS (s : StS) : List Cnd :=
  match candS s 0, candS s 1 with
  | none, none => []
  | some a, none => [a]
  | none, some b => [b]
  | some a, some b => if a.seq < b.seq then [b, a] else [a, b]
/-- What a round of the range leaves as it was: words, and boxes of one candidate. -/
structure KC (W W' : World) : Prop where
  sz : W.heap.size ≤ W'.heap.size
  u32 : ∀ (r : Nat) (cs : Array Value) (fr : Nat × Nat), W.heap[r]? = some (.cells cs 33 fr) → W'.heap[r]? = W.heap[r]?
  cnd : ∀ (r : Nat) (cs : Array Value) (fr : Nat × Nat), W.heap[r]? = some (.cells cs 107 fr) → cs.size = 4 → W'.heap[r]? = W.heap[r]?
theorem KC.refl (W : World) : KC W W := ⟨Nat.le_refl _, fun _ _ _ _ => rfl, fun _ _ _ _ _ => rfl⟩
theorem KC.trans {A B D : World} (h : KC A B) (k : KC B D) : KC A D :=
  ⟨Nat.le_trans h.sz k.sz, fun r cs fr e => (k.u32 r cs fr ((h.u32 r cs fr e).trans e)).trans (h.u32 r cs fr e), fun r cs fr e h2 => (k.cnd r cs fr ((h.cnd r cs fr e h2).trans e) h2).trans (h.cnd r cs fr e h2)⟩
theorem KC.turn {W : World} {l : Nat} {o : Obj} (o' : Obj) (ho : W.heap[l]? = some o) (hc : o.isCells = false) : KC W (W.putObj l o') :=
  ⟨(keep_putObj W l o').size, fun r cs fr e => World.putObj_heap_other (fun hh => by subst hh; rw [ho] at e; cases e; cases hc), fun r cs fr e _ => World.putObj_heap_other (fun hh => by subst hh; rw [ho] at e; cases e; cases hc)⟩
theorem KC.keep {F : List Nat} {A B : World} (k : Keep F A B) (hF : ∀ x ∈ F, x < A.heap.size → ∃ (cs : Array Value) (t : Nat) (fr : Nat × Nat), A.heap[x]? = some (.cells cs t fr) ∧ t ≠ 33 ∧ (t = 107 → cs.size ≠ 4)) : KC A B := by
  refine ⟨k.size, fun r cs fr e => k.block r (Array.getElem?_eq_some_iff.1 e).1 (fun hm => ?_), fun r cs fr e h2 => k.block r (Array.getElem?_eq_some_iff.1 e).1 (fun hm => ?_)⟩
  · obtain ⟨cs', t, fr', h1, h3, _⟩ := hF r hm (Array.getElem?_eq_some_iff.1 e).1
    rw [e] at h1
    cases h1
    exact h3 rfl
  · obtain ⟨cs', t, fr', h1, _, h4⟩ := hF r hm (Array.getElem?_eq_some_iff.1 e).1
    rw [e] at h1
    cases h1
    exact h4 rfl h2
theorem KC.keep0 {A B : World} (k : Keep [] A B) : KC A B := KC.keep k (fun x hx => by cases hx)
theorem KC.blk {A B : World} (k : KC A B) {b : Nat} {cs : Array Value} (h : Blk A b 107 cs) (h4 : cs.size = 4) : Blk B b 107 cs := by
  have h' : A.heap[b]? = some (.cells cs 107 (0, 0)) := h
  show B.heap[b]? = _
  rw [k.cnd b cs (0, 0) h' h4]
  exact h
/-- Words of a candidate: a row of its own of words. -/
def CndW (B : Nat) (W : World) (c : Cnd) (A : Option Addr) (cap : Nat) : Prop := W.ownsRow B 33 1 (.slice A c.words.length cap) c.words.length (wordsV c.words)
theorem CndW.keep0 {B : Nat} {W W' : World} {c : Cnd} {A : Option Addr} {cap : Nat} (h : CndW B W c A cap) (k : Keep [] W W') : CndW B W' c A cap := own_keep0 h k
theorem CndW.kc {B : Nat} {W W' : World} {c : Cnd} {A : Option Addr} {cap : Nat} (h : CndW B W c A cap) (k : KC W W') : CndW B W' c A cap := by
  refine ⟨h.1, ?_⟩
  rcases h.2 with h2 | ⟨q, cp, cur, hv, hb, hg, h5⟩
  · exact .inl h2
  · exact .inr ⟨q, cp, cur, hv, hb, (k.u32 q _ _ hg).trans hg, h5⟩
def EncC (B : Nat) (c : Cnd) (W : World) (args : Array Value) : Prop := ∃ A cap, args = #[.agg (cndV c A cap).toArray] ∧ CndW B W c A cap
/-- What a call of candidate hands back, whatever it is. -/
theorem cnd_both {w w' : World} {r : Option Cnd} {e : Ending} (h : RetCnd w r e w') : ∃ (cs : List Value) (okb : Bool), e = .returned (.tuple #[.agg cs.toArray, .bool okb]) ∧ cs.length = 4 ∧ (∀ x ∈ cs, x.oneCell' = true) ∧ Keep [] w w' ∧
    ((okb = false ∧ r = none) ∨ (okb = true ∧ ∃ c A cap, r = some c ∧ cs = cndV c A cap ∧ CndW w.heap.size w' c A cap)) := by
  cases r with
  | none => exact ⟨zeroCnd.toList, false, h.1, rfl, by simp [Value.oneCell'], h.2, .inl ⟨rfl, rfl⟩⟩
  | some c =>
    obtain ⟨A, cap, e1, h2, k⟩ := h
    exact ⟨cndV c A cap, true, e1, rfl, by simp [cndV, Value.oneCell'], k, .inr ⟨rfl, c, A, cap, rfl, rfl, h2⟩⟩
theorem cndV_cells {W : World} {b : Nat} {c : Cnd} {A : Option Addr} {cap : Nat} (h : Blk W b 107 (cndV c A cap).toArray) : CellsAt W b 0 (cndV c A cap) ∧ W.cell? ⟨b, 1, none⟩ = some (.int .u32 (c.seq : Int)) := ⟨h.cellsAt, h.cell 1⟩
theorem growT {β : Type} {B : Nat} {Lo : Nat → Obj → Prop} {J : β → World → Prop} (h : OwnT B Lo J) {s : β} {W W' : World} (hs : J s W) (k : Keep [] W W') : J s W' :=
  h s W W' none hs ⟨k.os, k.tape, k.output, k.size, fun i hi _ => k.block i hi (by simp)⟩ (fun r e => by cases e)
theorem scands_any (gs : Nat) (w : World) : Calls Try.prog 89 #[.pointer (some ⟨gs, 0, none⟩)] w fun e w' => e = .returned (.func (.func 127) #[] #[.pointer (some ⟨w.heap.size, 0, none⟩)]) ∧ w.alloc (.cells #[.pointer (some ⟨gs, 0, none⟩)] 86) = w' := by
  go_enter Try.func89, Try.ntmps89
  go_wp2
  go_ret
  exact ⟨rfl, rfl⟩

set_option maxRecDepth 100000 in
set_option maxHeartbeats 4000000 in
theorem scands1_seq (n : Nat) (v : StW) (s : StS) (Bs : Nat) (w : World) (hs : SrAt w v s) (ho : SrOk s) (hbs : Blk w Bs 86 #[.pointer (some ⟨v.gs, 0, none⟩)]) :
    SeqQ Fence.wide n Try.prog LoN 127 #[.pointer (some ⟨Bs, 0, none⟩)] (EncC w.heap.size) KC (candsS s) w := by
  intro l J Jx W hW hge hJ hJx hY h0
  have hk0 : Keep [] w W := keepB hW
  have HYC : ∀ m pre c W1 A cap, J pre W1 → pre ++ [c] <+: candsS s → CndW w.heap.size W1 c A cap → YieldAt Fence.wide m Try.prog l #[.agg (cndV c A cap).toArray] W1 fun e W' =>
      (e = .returned (.bool true) ∧ J (pre ++ [c]) W' ∧ KC W1 W') ∨ (e = .returned (.bool false) ∧ Jx (pre ++ [c]) W' ∧ KC W1 W') := fun m pre c W1 A cap hj hp hr => yieldAt_any open_wide (hY pre c W1 _ hj hp ⟨A, cap, rfl, hr⟩)
  clear hY
  have HC0 := fun W' (k : Keep [] w W') => Lib.hid (scand_any v s W' 0 (by decide) (hs.keep0 k) ho)
  have HC1 := fun W' (k : Keep [] w W') => Lib.hid (scand_any v s W' 1 (by decide) (hs.keep0 k) ho)
  have HBX := fun W' (k : Keep [] w W') => Lib.hid (hbs.keep0 k)
  have hbs0 : W.cell? ⟨Bs, 0, none⟩ = some (.pointer (some ⟨v.gs, 0, none⟩)) := (hbs.keep0 hk0).cell 0
  have HXS : Hid (candsS s = match candS s 0, candS s 1 with
    | none, none => []
    | some a, none => [a]
    | none, some b => [b]
    | some a, some b => if a.seq < b.seq then [b, a] else [a, b]) := show _ = _ from rfl
  generalize candsS s = xs at *
  generalize hr0 : candS s 0 = r0 at *
  generalize hr1 : candS s 1 = r1 at *
  have HGT : Hid (∀ W', Keep [] W W' → J [] W') := fun W' k => growT hJ h0 k
  clear hs ho hbs hr0 hr1 h0
  rw [callsIn_wide, ← callsIn_wide (n := 9)]
  refine callsIn_of_wp Try.func127 rfl trivial ?_ rfl
  simp only [Try.ntmps127, List.size_toArray, List.length_cons, List.length_nil, Nat.reduceAdd, Nat.reduceSub, Array.replicate_succ, Array.replicate_zero, List.push_toArray, List.append_toArray, List.nil_append, List.cons_append]
  gi_wp2_with fail
  refine ⟨trivial, ?_⟩
  refine (callsIn_wide.2 (HC0 W hk0).out).mono ?_
  clear HC0
  intro e w1 h1
  obtain ⟨cs0, ok0, hx, hl0, ho0, k1, hc0⟩ := cnd_both h1
  subst hx
  have HC0 := Lib.hid hc0
  have hz0 : w.heap.size ≤ W.heap.size := hk0.size
  clear h1 hc0
  gi_wp2_with (refine stopIn_store 107 (.tmp 3) (.tmp 10) rfl ?_)
  constructor
  refine wpListIn_store_all rfl 107 (.tmp 3) (.tmp 10) rfl rfl rfl (vs := cs0) (by rw [hl0]; exact agg_cnd.2) (Blk.new _ _ _) ho0 (by rw [hl0]; rfl) ?_
  intro w2 d2 k2
  have K2 : Keep [] W w2 := k1.then (((Keep.refl [] w1).alloc _).trans k2 (fun y hy h => by simp at hy h; omega))
  have HC02 : Hid ((ok0 = false ∧ r0 = none) ∨ (ok0 = true ∧ ∃ c A cap, r0 = some c ∧ cs0 = cndV c A cap ∧ CndW w.heap.size w2 c A cap)) := by
    rcases HC0.out with h | ⟨h, c, A, cap, h1, h2, h3⟩
    · exact .inl h
    · exact .inr ⟨h, c, A, cap, h1, h2, own_base (own_keep0 h3 (((Keep.refl [] w1).alloc _).trans k2 (fun y hy h => by simp at hy h; omega))) hz0⟩
  have HD2 := Lib.hid d2
  have hbs2 : w2.cell? ⟨Bs, 0, none⟩ = some (.pointer (some ⟨v.gs, 0, none⟩)) := (HBX w2 (hk0.then K2)).out.cell 0
  have HK2 := Lib.hid K2
  have hlt3 : w1.heap.size < w2.heap.size := d2.lt
  have hB3 : W.heap.size ≤ w1.heap.size := k1.size
  generalize w1.heap.size = B3 at *
  clear d2 k2 K2 k1 HC0 hbs0
  gi_wp2_with fail
  refine ⟨trivial, ?_⟩
  refine (callsIn_wide.2 (HC1 w2 (hk0.then HK2.out)).out).mono ?_
  clear HC1
  intro e w3 h3
  obtain ⟨cs1, ok1, hx, hl1, ho1, k3, hc1⟩ := cnd_both h3
  subst hx
  have HC1 := Lib.hid hc1
  clear h3 hc1
  gi_wp2_with (refine stopIn_store 107 (.tmp 5) (.tmp 15) rfl ?_)
  constructor
  refine wpListIn_store_all rfl 107 (.tmp 5) (.tmp 15) rfl rfl rfl (vs := cs1) (by rw [hl1]; exact agg_cnd.2) (Blk.new _ _ _) ho1 (by rw [hl1]; rfl) ?_
  intro w4 d4 k4
  have k34 : Keep [] w3 w4 := ((Keep.refl [] w3).alloc _).trans k4 (fun y hy h => by simp at hy h; omega)
  have k24 : Keep [] w2 w4 := k3.then k34
  have hzz : w.heap.size ≤ w2.heap.size := by have := HK2.out.size; omega
  have HC04 : Hid ((ok0 = false ∧ r0 = none) ∨ (ok0 = true ∧ ∃ c A cap, r0 = some c ∧ cs0 = cndV c A cap ∧ CndW w.heap.size w4 c A cap)) := by
    rcases HC02.out with h | ⟨h, c, A, cap, h1, h2, h3⟩
    · exact .inl h
    · exact .inr ⟨h, c, A, cap, h1, h2, h3.keep0 k24⟩
  have HC14 : Hid ((ok1 = false ∧ r1 = none) ∨ (ok1 = true ∧ ∃ c A cap, r1 = some c ∧ cs1 = cndV c A cap ∧ CndW w.heap.size w4 c A cap)) := by
    rcases HC1.out with h | ⟨h, c, A, cap, h1, h2, h3⟩
    · exact .inl h
    · exact .inr ⟨h, c, A, cap, h1, h2, own_base (own_keep0 h3 k34) hzz⟩
  have HD3 := Lib.hid (HD2.out.keep0 k24)
  have HD5 := Lib.hid d4
  have HJ4 := Lib.hid (HGT.out w4 (HK2.out.then k24))
  have hne35 : B3 < w3.heap.size := by have := k3.size; omega
  have HK4 := Lib.hid (HK2.out.then k24)
  generalize w3.heap.size = B5 at *
  clear d4 k4 k34 k24 k3 HC1 HC02 HD2 HK2 hbs2 HBX
  rcases HC04.out with ⟨rfl, rfl⟩ | ⟨rfl, ca, A, pa, rfl, rfl, hwa⟩
  · rcases HC14.out with ⟨rfl, rfl⟩ | ⟨rfl, cb, B, pb, rfl, rfl, hwb⟩
    · have hxs : xs = [] := HXS.out
      clear HC04 HC14 HXS HYC
      gi_wp2
      go_end0
      exact ⟨⟨_, rfl⟩, .inl (by rw [hxs]; exact HJ4.out)⟩
    · have hxs : xs = [cb] := HXS.out
      have HX := Lib.hid hxs
      have hp : ([] : List Cnd) ++ [cb] <+: xs := by rw [hxs]; exact List.prefix_refl _
      have HP := Lib.hid hp
      have HWB := Lib.hid hwb
      clear HC04 HC14 HXS hxs hp hwb
      obtain ⟨fn, tmps, assign, body, hy, hR⟩ := HYC 8 [] cb w4 B pb HJ4.out HP.out HWB.out
      gi_wp2_with (refine stopIn_at 48 rfl ?_)
      constructor
      refine wpListIn_agg_wJ (by rfl) 107 (.tmp 5) rfl rfl (cs := cndV cb B pb) agg_cnd HD5.out.cellsAt ?_
      gi_wp2
      refine hR.mono ?_
      rintro e w5 (⟨rfl, j2, kc2⟩ | ⟨rfl, jx2, kc2⟩)
      rotate_left
      · clear hy hR
        gi_wp2
        go_end0
        exact ⟨⟨_, rfl⟩, .inr ⟨_, HP.out, jx2⟩⟩
      clear hy hR
      gi_wp2
      go_end0
      exact ⟨⟨_, rfl⟩, .inl (by rw [HX.out]; exact j2)⟩
  · rcases HC14.out with ⟨rfl, rfl⟩ | ⟨rfl, cb, B, pb, rfl, rfl, hwb⟩
    · have hxs : xs = [ca] := HXS.out
      have HX := Lib.hid hxs
      have hp : ([] : List Cnd) ++ [ca] <+: xs := by rw [hxs]; exact List.prefix_refl _
      have HP := Lib.hid hp
      have HWB := Lib.hid hwa
      clear HC04 HC14 HXS hxs hp hwa
      obtain ⟨fn, tmps, assign, body, hy, hR⟩ := HYC 8 [] ca w4 A pa HJ4.out HP.out HWB.out
      gi_wp2_with (refine stopIn_at 44 rfl ?_)
      constructor
      refine wpListIn_agg_wJ (by rfl) 107 (.tmp 3) rfl rfl (cs := cndV ca A pa) agg_cnd HD3.out.cellsAt ?_
      gi_wp2
      refine hR.mono ?_
      rintro e w5 (⟨rfl, j2, kc2⟩ | ⟨rfl, jx2, kc2⟩)
      rotate_left
      · clear hy hR
        gi_wp2
        go_end0
        exact ⟨⟨_, rfl⟩, .inr ⟨_, HP.out, jx2⟩⟩
      clear hy hR
      gi_wp2
      go_end0
      exact ⟨⟨_, rfl⟩, .inl (by rw [HX.out]; exact j2)⟩
    · have hxs : xs = if ca.seq < cb.seq then [cb, ca] else [ca, cb] := HXS.out
      have HWA := Lib.hid hwa
      have HWB := Lib.hid hwb
      have a1 : w4.cell? ⟨B3, 1, none⟩ = some (.int .u32 (ca.seq : Int)) := HD3.out.cell 1
      have b1 : w4.cell? ⟨B5, 1, none⟩ = some (.int .u32 (cb.seq : Int)) := HD5.out.cell 1
      clear HC04 HC14 hwa hwb
      by_cases hsq : ca.seq < cb.seq
      · rw [if_pos hsq] at hxs
        have q0 : decide ((ca.seq : Int) < (cb.seq : Int)) = true := decide_eq_true (by omega)
        have q1 := eq_true hsq
        have HX := Lib.hid hxs
        have hp1 : ([] : List Cnd) ++ [cb] <+: xs := by rw [hxs]; exact ⟨[ca], rfl⟩
        have hp2 : ([] ++ [cb] : List Cnd) ++ [ca] <+: xs := by rw [hxs]; exact List.prefix_refl _
        have HP1 := Lib.hid hp1
        have HP2 := Lib.hid hp2
        clear HXS hxs hp1 hp2
        clear hsq
        gi_wp2_with (refine stopIn_at 28 rfl ?_)
        constructor
        refine wpListIn_agg_wJ (by rfl) 107 (.tmp 5) rfl rfl (cs := cndV cb B pb) agg_cnd HD5.out.cellsAt ?_
        refine wpListIn_agg_wJ (by rfl) 107 (.tmp 3) rfl rfl (cs := cndV ca A pa) agg_cnd HD3.out.cellsAt ?_
        refine wpListIn_store_all rfl 107 (.tmp 3) (.tmp 28) rfl rfl rfl (vs := cndV cb B pb) agg_cnd.2 HD3.out (by simp [cndV, Value.oneCell']) rfl ?_
        intro w5 d5 k5
        have hd55 := HD5.out.keep k5 (by simp only [List.mem_cons, List.not_mem_nil, or_false]; omega)
        refine wpListIn_store_all rfl 107 (.tmp 5) (.tmp 29) rfl rfl rfl (vs := cndV ca A pa) agg_cnd.2 hd55 (by simp [cndV, Value.oneCell']) rfl ?_
        intro w6 d6 k6
        have hd36 := d5.keep k6 (by simp only [List.mem_cons, List.not_mem_nil, or_false]; omega)
        have kk : Keep [B3, B5] w4 w6 := Keep.trans (k5.mono (by simp)) k6 (fun y hy _ => by simp at hy ⊢; exact .inr hy)
        have hn3 : ∀ {c : Cnd} {D : Option Addr} {p : Nat}, CndW w.heap.size w4 c D p → CndW w.heap.size w6 c D p := fun h => own_keep h kk (fun y hy hm => by
          simp only [List.mem_cons, List.not_mem_nil, or_false] at hm
          rcases hm with rfl | rfl
          · exact own_blk_ne h HD3.out (by decide) hy
          · exact own_blk_ne h HD5.out (by decide) hy)
        have HWA6 := Lib.hid (hn3 HWA.out)
        have HWB6 := Lib.hid (hn3 HWB.out)
        have HJ6 := Lib.hid (HGT.out w6 (HK4.out.trans kk (fun y hy hl => by simp only [List.mem_cons, List.not_mem_nil, or_false] at hy; omega)))
        have HD36 := Lib.hid hd36
        have HD56 := Lib.hid d6
        clear d5 k5 hd55 d6 k6 hd36 kk hn3 HWA HWB HJ4 HD3 HD5 HK4 HGT a1 b1
        obtain ⟨fn, tmps, assign, body, hy, hR⟩ := HYC 8 [] cb w6 B pb HJ6.out HP1.out HWB6.out
        gi_wp2_with (refine stopIn_at 35 rfl ?_)
        constructor
        refine wpListIn_agg_wJ (by rfl) 107 (.tmp 3) rfl rfl (cs := cndV cb B pb) agg_cnd HD36.out.cellsAt ?_
        gi_wp2
        refine hR.mono ?_
        rintro e w7 (⟨rfl, j2, kc2⟩ | ⟨rfl, jx2, kc2⟩)
        rotate_left
        · clear hy hR
          gi_wp2
          refine ⟨fun f h => (by cases h), ?_⟩
          gi_wp2
          refine bodyPost_ret (results_none rfl _ _ _) rfl ?_
          exact ⟨⟨_, rfl⟩, .inr ⟨_, HP1.out, jx2⟩⟩
        have hw7 := HWA6.out.kc kc2
        have hb7 := KC.blk kc2 HD56.out rfl
        obtain ⟨fn2, tmps2, assign2, body2, hy2, hR2⟩ := HYC 8 ([] ++ [cb]) ca w7 A pa j2 HP2.out hw7
        clear hy hR
        have HB7 := Lib.hid hb7
        clear hb7 hw7
        gi_wp2_with (refine stopIn_at 39 rfl ?_)
        constructor
        refine wpListIn_agg_wJ (by rfl) 107 (.tmp 5) rfl rfl (cs := cndV ca A pa) agg_cnd HB7.out.cellsAt ?_
        gi_wp2
        refine hR2.mono ?_
        rintro e w8 (⟨rfl, j3, kc3⟩ | ⟨rfl, jx3, kc3⟩)
        rotate_left
        · clear hy2 hR2
          gi_wp2
          refine bodyPost_ret (results_none rfl _ _ _) rfl ?_
          exact ⟨⟨_, rfl⟩, .inr ⟨_, HP2.out, jx3⟩⟩
        clear hy2 hR2
        gi_wp2
        refine bodyPost_ret (results_none rfl _ _ _) rfl ?_
        exact ⟨⟨_, rfl⟩, .inl (by rw [HX.out]; exact j3)⟩
      · rw [if_neg hsq] at hxs
        have q0 : decide ((ca.seq : Int) < (cb.seq : Int)) = false := decide_eq_false (by omega)
        have q1 := eq_false hsq
        have HX := Lib.hid hxs
        have hp1 : ([] : List Cnd) ++ [ca] <+: xs := by rw [hxs]; exact ⟨[cb], rfl⟩
        have hp2 : ([] ++ [ca] : List Cnd) ++ [cb] <+: xs := by rw [hxs]; exact List.prefix_refl _
        have HP1 := Lib.hid hp1
        have HP2 := Lib.hid hp2
        clear HXS hxs hp1 hp2
        clear hsq
        obtain ⟨fn, tmps, assign, body, hy, hR⟩ := HYC 8 [] ca w4 A pa HJ4.out HP1.out HWA.out
        gi_wp2_with (refine stopIn_at 35 rfl ?_)
        constructor
        refine wpListIn_agg_wJ (by rfl) 107 (.tmp 3) rfl rfl (cs := cndV ca A pa) agg_cnd HD3.out.cellsAt ?_
        gi_wp2
        refine hR.mono ?_
        rintro e w7 (⟨rfl, j2, kc2⟩ | ⟨rfl, jx2, kc2⟩)
        rotate_left
        · clear hy hR
          gi_wp2
          refine ⟨fun f h => (by cases h), ?_⟩
          gi_wp2
          refine bodyPost_ret (results_none rfl _ _ _) rfl ?_
          exact ⟨⟨_, rfl⟩, .inr ⟨_, HP1.out, jx2⟩⟩
        have hw7 := HWB.out.kc kc2
        have hb7 := KC.blk kc2 HD5.out rfl
        obtain ⟨fn2, tmps2, assign2, body2, hy2, hR2⟩ := HYC 8 ([] ++ [ca]) cb w7 B pb j2 HP2.out hw7
        clear hy hR
        have HB7 := Lib.hid hb7
        clear hb7 hw7
        gi_wp2_with (refine stopIn_at 39 rfl ?_)
        constructor
        refine wpListIn_agg_wJ (by rfl) 107 (.tmp 5) rfl rfl (cs := cndV cb B pb) agg_cnd HB7.out.cellsAt ?_
        gi_wp2
        refine hR2.mono ?_
        rintro e w8 (⟨rfl, j3, kc3⟩ | ⟨rfl, jx3, kc3⟩)
        rotate_left
        · clear hy2 hR2
          gi_wp2
          refine bodyPost_ret (results_none rfl _ _ _) rfl ?_
          exact ⟨⟨_, rfl⟩, .inr ⟨_, HP2.out, jx3⟩⟩
        clear hy2 hR2
        gi_wp2
        refine bodyPost_ret (results_none rfl _ _ _) rfl ?_
        exact ⟨⟨_, rfl⟩, .inl (by rw [HX.out]; exact j3)⟩
end Go.Proofs.Yteanpgkonhdbpaa

namespace Go.Proofs.Yteanpgkonhdbpaa
open Go.RowKit
attribute [local go_sem] Oper.semAt_some

/-- A candidate, and where its words lie. -/
structure CndP where
  c : Cnd
  a : Option Addr
  p : Nat
abbrev cpCells (x : CndP) : List Value := cndV x.c x.a x.p
def cndRow (l : List CndP) : List Value := l.flatMap cpCells
theorem slice_cnd : SliceOf Try.prog 89 107 4 40 := ⟨Try.underlying89, by kernel_rfl, by decide⟩
theorem cpCells_one (x : CndP) : ∀ v ∈ cpCells x, v.oneCell' = true := by simp [cndV, Value.oneCell']
/-- A row of candidates of the call's own. -/
def RetList (w : World) (L : List Cnd) (e : Ending) (w' : World) : Prop :=
  ∃ A c ps, ps.map CndP.c = L ∧ e = .returned (.slice A L.length c) ∧ w'.ownsRow w.heap.size 107 4 (.slice A L.length c) L.length (cndRow ps) ∧ (∀ x ∈ ps, CndW w.heap.size w' x.c x.a x.p) ∧ Keep [] w w'

theorem wpListIn_runsS {P : Program} {ops : Array Oper} {rest : List Oper} {o : Oper} {a : Act} {Q : Exit → Act → World → Prop} {w : World} {F : Fence} {n' : Nat} (hF : Open F) (hgd : o.guard = none) (hd : ∀ c, o.op ≠ .defer c) {v : Value} {w' : World}
    (he : (execOp a.eval o).run P w = .ok (.value v) w') (h : wpListIn F n' P ops Q rest (a.put o.dst v) w') : wpListIn F n' P ops Q (o :: rest) a w := by
  refine wpListIn_plain hgd fun K hK => ?_
  unfold Oper.wpIn
  refine ⟨fun f _ => hF.fn f, ?_⟩
  rw [Oper.semAt_plain F _ _ hd, he]
  exact hK _ _ h
theorem exec_slice_oneS {P : Program} {t e : TypeId} {size bytes : Nat} (hS : SliceOf P t e size bytes) {cs : List Value} (hl : cs.length = size) (hb : size ≤ 1000) {ev : Operand → Value} {x : Operand} (hx : ev x = .agg cs.toArray) (w : World) {dst : Option Tmp} {ty : TypeId} {pos : String} {after : Array Edge} {gd : Option (Nat × Bool)} :
    (execOp ev ⟨dst, .buildSlice t 1 #[(0, x)], ty, pos, after, gd⟩).run P w = .ok (.value (.slice (some ⟨w.heap.size, 0, none⟩) 1 1)) (w.alloc (.cells cs.toArray e)) := by
  obtain ⟨ht, ⟨i, z, hi, hz, hsz, _, hzs⟩, hpos⟩ := hS.parts
  have hf : Instr.fill (fun j => some (j * i.size, i.size)) ((Array.range (1 * i.size)).map (z.cells[· % z.cells.size]!)) #[(0, Value.agg cs.toArray)].toList = some cs.toArray := by
    have := Great.fill_whole (s := i.size) (by omega) [Value.agg cs.toArray] ((Array.range (1 * i.size)).map (z.cells[· % z.cells.size]!)) (by simp [Value.cells, hl, hsz]) (by simp)
    simpa [Value.cells] using this
  have h := run_buildSlice (P := P) w t e 1 #[(0, Value.agg cs.toArray)] cs.toArray i z ht hi hz (by omega) (by omega) hf
  unfold execOp
  simp [hx, h]
set_option maxRecDepth 100000 in
set_option maxHeartbeats 4000000 in
theorem slist_any (v : StW) (s : StS) (w : World) (hs : SrAt w v s) (ho : SrOk s) (hLn : (candsS s).length ≤ 2) :
    Calls Try.prog 45 #[.pointer (some ⟨v.gs, 0, none⟩)] w (RetList w (candsS s)) := by
  have hnn := fun f x y => run_neq_func_nil (P := Try.prog) Try.underlying154 f x y
  have HAL := fun W => Lib.hid (scands_any v.gs W)
  rw [← callsIn_wide (n := 9)]
  refine callsIn_of_wp_marks Try.func45 rfl trivial ?_ rfl
  simp only [Try.ntmps45, List.size_toArray, List.length_cons, List.length_nil, Nat.reduceAdd, Nat.reduceSub, Array.replicate_succ, Array.replicate_zero, List.push_toArray, List.append_toArray, List.nil_append, List.cons_append]
  gi_wp2_with (refine ⟨trivial, ?_⟩; refine (callsIn_wide.2 (HAL _).out).mono ?_; rintro e w' ⟨rfl, rfl⟩)
  obtain ⟨W0, hW0⟩ : ∃ W0, (w.alloc (.cells #[.slice none 0 0] 89)).alloc (.cells #[.pointer (some ⟨v.gs, 0, none⟩)] 86) = W0 := ⟨_, rfl⟩
  have K0 : Keep [] w W0 := by rw [← hW0]; exact ((Keep.refl [] w).alloc _).alloc _
  have b0 : Blk W0 w.heap.size 89 #[.slice none 0 0] := by rw [← hW0]; exact (Blk.new _ _ _).alloc _
  have b1' : Blk W0 (w.heap.size + 1) 86 #[.pointer (some ⟨v.gs, 0, none⟩)] := by
    have := Blk.new (w.alloc (.cells #[.slice none 0 0] 89)) 86 #[.pointer (some ⟨v.gs, 0, none⟩)]
    rw [show (w.alloc (.cells #[.slice none 0 0] 89)).heap.size = w.heap.size + 1 by simp, hW0] at this
    exact this
  have hz0 : W0.heap.size = w.heap.size + 2 := by rw [← hW0]; simp
  rw [hW0]
  clear hW0
  have hseq := scands1_seq 8 v s (w.heap.size + 1) W0 (hs.keep0 K0) ho b1'
  generalize candsS s = L at *
  have HLN := Lib.hid hLn
  clear hLn hs ho
  refine wpIn_rangeQ (F := Fence.wide) (n := 9) (Lo := LoN) (ps := #[11]) rfl (by omega) (gf := 127) (lb := #[.pointer (some ⟨w.heap.size + 1, 0, none⟩)]) rfl trivial (enters_of Try.func127 (by kernel_rfl) rfl)
    hseq KC.trans (fun W o o' ho hc => KC.turn o' ho hc) (Below.refl _ _) (fun x W args h => by obtain ⟨A, p, rfl, _⟩ := h; rfl)
    (fun pre W => ∃ ps u, ps.map CndP.c = pre ∧ W.ownsRow W0.heap.size 107 4 u pre.length (cndRow ps) ∧ (pre = [] → u = .slice none 0 0) ∧ Blk W w.heap.size 89 #[u] ∧ (∀ x ∈ ps, CndW W0.heap.size W x.c x.a x.p) ∧ Keep [w.heap.size] W0 W)
    (fun _ _ _ => False) ?hI ?hIx ⟨[], _, rfl, World.ownsRow_nil _ _ _ _, fun _ => rfl, b0, fun x hx => (by cases hx), Keep.refl _ _⟩
    (fun x a1 W => ∃ (g5 : Nat) (A : Option Addr) (p : Nat), Blk W g5 107 (cndV x A p).toArray ∧ CndW W0.heap.size W x A p ∧ a1 = { tmps := #[.pointer (some ⟨v.gs, 0, none⟩), undef, .slice none 0 0, .pointer (some ⟨w.heap.size, 0, none⟩), .func (.func 127) #[] #[.pointer (some ⟨w.heap.size + 1, 0, none⟩)], .pointer (some ⟨g5, 0, none⟩), .pointer (some ⟨v.gs, 0, none⟩),
      .func (.func 127) #[] #[.pointer (some ⟨w.heap.size + 1, 0, none⟩)], .func (.func 127) #[] #[.pointer (some ⟨w.heap.size + 1, 0, none⟩)], .bool true, .func (.func 127) #[] #[.pointer (some ⟨w.heap.size + 1, 0, none⟩)], .agg (cndV x A p).toArray, undef, undef, undef, undef, undef], defers := [] })
    ?hPA (fun W W2 hW hk => KC.keep0 hk) ?assign ?body ?done ?stop
  case hI =>
    rintro pre X Y row ⟨ps, u, hps, h1, h2, h3, h5, h4⟩ hg hr
    have k := Keep.of_grown hg
    have hno : ∀ y t cs, Blk X y t cs → y ∉ row.toList := fun y t cs hbk hm => by
      obtain ⟨o, e, ⟨_, hc⟩ | ⟨_, hf⟩⟩ := hr y (by simpa using hm)
      · rw [show X.heap[y]? = _ from hbk] at e; cases e; cases hc
      · exact hf.elim
    have hro : ∀ {B0 e' sz n' : Nat} {vv : Value} {xs' : List Value}, X.ownsRow B0 e' sz vv n' xs' → ∀ y, vv.ownBlock = some y → y ∉ row.toList := fun ho y hy hm => by
      obtain ⟨cs, fr, hh⟩ := row_typed ho y (by simp [hy])
      obtain ⟨o, e, ⟨_, hc⟩ | ⟨_, hf⟩⟩ := hr y (by simpa using hm)
      · rw [hh] at e; cases e; cases hc
      · exact hf.elim
    refine ⟨ps, u, hps, own_keep h1 k (hro h1), h2, h3.keep k (hno _ _ _ h3), fun x hx => own_keep (h5 x hx) k (hro (h5 x hx)), h4.trans k (fun y hy hlt => ?_)⟩
    obtain ⟨o, e, ⟨h6, hc⟩ | ⟨_, hf⟩⟩ := hr y (by simpa using hy)
    · omega
    · exact hf.elim
  case hIx => exact fun _ _ _ _ _ hs _ _ => hs.elim
  case hPA =>
    rintro x a1 _ X Y row ⟨g5, A, p, h1, hw, h2⟩ hg hr
    exact ⟨g5, A, p, blk_own (β := Unit) _ _ (fun _ => _) () X Y row h1 hg hr, ownsRow_own (β := Unit) _ _ _ (fun _ => _) (fun _ => _) (fun _ => _) () X Y row hw hg hr, h2⟩
  case assign =>
    rintro l x args W K' hW ⟨A, p, rfl, hcw⟩ hK'
    gi_wp2_with (refine stopIn_store 107 (.tmp 5) (.tmp 11) rfl ?_)
    constructor
    refine wpListIn_store_all rfl 107 (.tmp 5) (.tmp 11) rfl rfl rfl (vs := cndV x A p) agg_cnd.2 (Blk.new _ _ _) (by simp [cndV, Value.oneCell']) rfl ?_
    intro W1 d1 kk1
    have kr : Keep [] W W1 := ((Keep.refl [] W).alloc _).trans kk1 (fun y hy h => by simp at hy h; omega)
    gi_wp2
    exact hK' _ _ kr ⟨_, A, p, d1, hcw.keep0 kr, rfl⟩
  case body =>
    rintro l pre x a1 W hW ⟨ps, u, hps, hrow, hnil, hv, hws, hK⟩ ⟨g5, Ax, px, hb5, hcw, rfl⟩ hpre
    have hlen : pre.length + 1 ≤ L.length := by have := hpre.length_le; simpa using this
    have hc := hv.cell 0
    simp at hc
    have HB5 := Lib.hid hb5
    obtain ⟨A, c, rfl⟩ := own_shape hrow
    have hne := own_blk_ne hrow hv (by decide)
    have hL1 := HLN.out
    have HPR := Lib.hid hrow
    have HV := Lib.hid hv
    have HK := Lib.hid hK
    have HNIL := Lib.hid hnil
    have HWS := Lib.hid hws
    have HCW := Lib.hid hcw
    have hB : W0.heap.size ≤ W.heap.size := by omega
    clear hK hv hnil hpre hws hcw hb5
    gi_wp2_with (refine stopIn_at 13 rfl ?_)
    constructor
    refine wpListIn_agg_wJ (by rfl) 107 (.tmp 5) rfl rfl (cs := cndV x Ax px) agg_cnd HB5.out.cellsAt ?_
    refine wpListIn_runsS (open_round l) rfl (fun c h => by cases h) (exec_slice_oneS slice_cnd (cs := cndV x Ax px) rfl (by decide) rfl _) ?_
    refine wpListIn_append_oneJ rfl (.tmp 12) (.tmp 14) 89 rfl slice_cnd HPR.out rfl rfl (us := cndV x Ax px) rfl (by simp [cndV, Value.oneCell']) hB (by omega) (by unfold maxLen; omega) ?_
    intro v' w1 hown1 hk1 hkk
    obtain ⟨A', c', rfl⟩ := own_shape hown1
    have hv1 := HV.out.keep hk1 (by simpa using hne)
    have hc1 := hv1.cell 0
    have hf1 := hv1.frozen 0
    simp at hc1
    gi_wp2
    obtain ⟨n1, n2, n3⟩ := boxed_append HPR.out HV.out (by decide) hk1 hown1
    have hob := row_baseJ HPR.out
    have hW1 : KeepsFrom W0.heap.size W (w1.setCell ⟨w.heap.size, 0, none⟩ (.slice A' (pre.length + 1) c')) := n3.from (fun y hy => by
      rcases List.mem_cons.1 hy with rfl | hy
      · exact .inl (by omega)
      · obtain ⟨cs, fr, hh⟩ := row_typed HPR.out y hy
        exact .inr ⟨_, _, _, hh⟩)
    have ks := keep_set w1 w.heap.size 0 (.slice A' (pre.length + 1) c')
    have hW2 : KC W (w1.setCell ⟨w.heap.size, 0, none⟩ (.slice A' (pre.length + 1) c')) := by
      have hbx : ∃ (cs : Array Value) (t : Nat) (fr : Nat × Nat), W.heap[w.heap.size]? = some (.cells cs t fr) ∧ t ≠ 33 ∧ (t = 107 → cs.size ≠ 4) := ⟨_, _, _, HV.out, by decide, fun h => absurd h (by decide)⟩
      rcases hkk with h0 | ⟨g6, cs, cap, hv6, hg6, hcs, hcap⟩
      · refine KC.keep (F := [w.heap.size]) ((h0.mono (by simp)).trans ks (fun y hy _ => hy)) (fun x hx _ => ?_)
        simp at hx
        subst hx
        exact hbx
      · refine KC.keep (F := [w.heap.size, g6]) (n3.mono (fun y hy _ => by rw [hv6] at hy; simpa [Value.ownBlock] using hy)) (fun x hx _ => ?_)
        simp only [List.mem_cons, List.not_mem_nil, or_false] at hx
        rcases hx with rfl | rfl
        · exact hbx
        · refine ⟨_, _, _, hg6, by decide, fun _ => ?_⟩
          have hp : pre.length ≠ 0 := fun h0 => by
            have := HNIL.out (List.length_eq_zero_iff.1 h0)
            rw [hv6] at this
            cases this
          omega
    refine ⟨hW1, hW2, ps ++ [⟨x, Ax, px⟩], .slice A' (pre.length + 1) c', by rw [List.map_append, hps]; rfl, ?_, fun h => absurd h (by simp), n1, fun y hy => ?_, HK.out.trans n3 (fun y hy hlt => ?_)⟩
    · have e : cndRow (ps ++ [⟨x, Ax, px⟩]) = cndRow ps ++ cndV x Ax px := by unfold cndRow; rw [List.flatMap_append]; simp
      rw [e]
      simpa using n2
    · rcases List.mem_append.1 hy with hy | hy
      · exact (HWS.out y hy).kc hW2
      · simp at hy
        subst hy
        exact HCW.out.kc hW2
    · rcases List.mem_cons.1 hy with rfl | hy
      · simp
      · have := hob y hy
        omega
  case done =>
    rintro D W hD ⟨ps, u, hps, hrow, hnil, hv, hws, hK⟩ hD2
    have hc := hv.cell 0
    simp at hc
    obtain ⟨A, c, rfl⟩ := own_shape hrow
    have HR := Lib.hid hrow
    have HK := Lib.hid hK
    have HWS := Lib.hid hws
    clear hrow hnil hv hK hws
    gi_wp2
    refine leavesM_marksJ [D] W (by simp) (fun D' hD' => by simp at hD'; subst hD'; exact hD2) (fun W' hk => ?_)
    have hro : ∀ {B0 e' sz n' : Nat} {vv : Value} {xs' : List Value}, W.ownsRow B0 e' sz vv n' xs' → ∀ y, vv.ownBlock = some y → y ∉ [D] := fun ho y hy hm => by
      simp at hm
      subst hm
      obtain ⟨cs, fr, hh⟩ := row_typed ho y (by simp [hy])
      rw [hD2] at hh
      cases hh
    exact ⟨_, by simp [results, Try.results45, go_sem], A, c, ps, hps, rfl, own_base (own_keep HR.out hk (hro HR.out)) (by omega), fun x hx => own_base (own_keep (HWS.out x hx) hk (hro (HWS.out x hx))) (by omega), (K0.trans HK.out (fun y hy hlt => by simp at hy; omega)).trans hk (fun y hy hlt => by simp at hy; omega)⟩
  case stop =>
    rintro D c pre W _ hpre hF _
    exact hF.elim
end Go.Proofs.Yteanpgkonhdbpaa
