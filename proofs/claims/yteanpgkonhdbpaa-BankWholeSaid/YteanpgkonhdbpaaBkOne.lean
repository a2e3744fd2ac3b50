/- A call of both banks (law08's one), walked. Condition: the device is one that may be, the bank one of all its sectors. -/
import Derived.Test.YteanpgkonhdbpaaBkIm
import Derived.Test.YteanpgkonhdbpaaBkT
import Derived.Test.YteanpgkonhdbpaaLaw06Do
namespace Go.Proofs.Yteanpgkonhdbpaa
open Go.RowKit

/-- A call of the law, and where its words lie. -/
structure BOp where
  kind : Int
  n : Int
  s : Nat
  l : List Nat
structure BOpV where
  a : Option Addr
  c : Nat
abbrev bopCells (o : BOp × BOpV) : List Value := [.int .i64 o.1.kind, .int .i64 o.1.n, .int .u32 (o.1.s : Int), .slice o.2.a o.1.l.length o.2.c]
structure BOpAt (W : World) (o : BOp × BOpV) : Prop where
  words : Reads W 1 o.2.a o.1.l.length (wordsV o.1.l)
  lt : ∀ y ∈ o.1.l, y < 4294967296
  s32 : o.1.s < 4294967296
  n64 : o.1.n ≤ 9223372036854775807
theorem BOpAt.keep0 {W W' : World} {o : BOp × BOpV} (h : BOpAt W o) (k : Keep [] W W') : BOpAt W' o := ⟨h.words.keep0 k, h.lt, h.s32, h.n64⟩
def qB (n : Int) : Nat := (n % 4294967296).toNat
theorem qB_lt (n : Int) : qB n < 4294967296 := by unfold qB; omega
theorem qB_wrap (n : Int) : IntKind.u32.wrap n = ((qB n : Nat) : Int) := by rw [IntKind.wrap_u32]; unfold qB; omega
def oneD (x : BenS) (o : BOp) : BenS :=
  if kindM o.kind = 0 then (beginD x).1
  else if kindM o.kind = 3 then (commitD x (qB o.n)).1
  else if kindM o.kind = 4 then (markD x false).1
  else if kindM o.kind = 5 then (markD x true).1
  else if kindM o.kind = 6 then { x with d := armS x.d o.n o.s }
  else if kindM o.kind = 7 then { x with d := powerS x.d true }
  else (putD x o.l).1
def RetOne (base : Nat) (F0 : List Nat) (w : World) (g gb b1 b2 : Nat) (x : BenS) (en : Ending) (w' : World) : Prop :=
  ∃ b A1 A2 c1 c2 Ap cp, en = .returned (.tuple #[.agg (benchV g gb x A1 A2 c1 c2 Ap cp).toArray, .bool true]) ∧ DevAt w' g b1 b2 x.d ∧ BankAt w' gb g b ∧ BenAt base F0 w' A1 A2 c1 c2 Ap x ∧ SameB x b ∧ BigB x.d ∧ Keep [gb, g, b1, b2] w w'
def boxO (w : World) (L M : List Value) : World := ((w.alloc (.cells L.toArray 76)).alloc (.cells M.toArray 80)).alloc (.cells zeroBen 76)
theorem boxO_facts (w : World) (L M : List Value) : Blk (boxO w L M) w.heap.size 76 L.toArray ∧ Blk (boxO w L M) (w.heap.size + 1) 80 M.toArray ∧ Blk (boxO w L M) (w.heap.size + 1 + 1) 76 zeroBen ∧ Keep [] w (boxO w L M) := by
  exact alloc3 w L.toArray M.toArray zeroBen _ _ _
theorem BenAt.widen {base : Nat} {F G : List Nat} {w : World} {A1 A2 : Option Addr} {c1 c2 : Nat} {Ap : Option Addr} {x : BenS} (h : BenAt base F w A1 A2 c1 c2 Ap x) (hG : ∀ y ∈ G, w.heap.size ≤ y) : BenAt base (F ++ G) w A1 A2 c1 c2 Ap x := by
  refine ⟨⟨h.rows.bits, h.rows.worn, fun y hy hm => ?_, fun y hy hm => ?_⟩, h.put, fun h0 ad ha hm => ?_⟩
  · rcases List.mem_append.1 hm with hm | hm
    · exact h.rows.off1 y hy hm
    · have := (h.rows.bits.lt y hy).2
      have := hG y hm
      omega
  · rcases List.mem_append.1 hm with hm | hm
    · exact h.rows.off2 y hy hm
    · have := (h.rows.worn.lt y hy).2
      have := hG y hm
      omega
  · rcases List.mem_append.1 hm with hm | hm
    · exact h.off h0 ad ha hm
    · obtain ⟨b, o, e, hb, _⟩ := h.put.addr h0
      rw [e] at ha
      cases ha
      have := hG _ hm
      dsimp only at this
      omega
theorem BenAt.narrow {base : Nat} {F G : List Nat} {w : World} {A1 A2 : Option Addr} {c1 c2 : Nat} {Ap : Option Addr} {x : BenS} (h : BenAt base (F ++ G) w A1 A2 c1 c2 Ap x) : BenAt base F w A1 A2 c1 c2 Ap x :=
  ⟨⟨h.rows.bits, h.rows.worn, fun y hy hm => h.rows.off1 y hy (List.mem_append_left _ hm), fun y hy hm => h.rows.off2 y hy (List.mem_append_left _ hm)⟩, h.put, fun h0 ad ha hm => h.off h0 ad ha (List.mem_append_left _ hm)⟩
/-- What the program's call leaves, with the document's. -/
def LeftOne (w w' : World) (g gb b1 b2 : Nat) (x : BenS) (b : BkS) : Prop := DevAt w' g b1 b2 x.d ∧ BankAt w' gb g b ∧ Keep [gb, g, b1, b2] w w'
theorem bench_gb (g gb : Nat) (x : BenS) (A1 A2 : Option Addr) (c1 c2 : Nat) (Ap : Option Addr) (cp : Nat) : (benchV g gb x A1 A2 c1 c2 Ap cp).toArray[1]? = some (.pointer (some ⟨gb, 0, none⟩)) := (bench_cells g gb x A1 A2 c1 c2 Ap cp).2.1
theorem bench_g (g gb : Nat) (x : BenS) (A1 A2 : Option Addr) (c1 c2 : Nat) (Ap : Option Addr) (cp : Nat) : (benchV g gb x A1 A2 c1 c2 Ap cp).toArray[0]? = some (.pointer (some ⟨g, 0, none⟩)) := (bench_cells g gb x A1 A2 c1 c2 Ap cp).1

theorem bench_put_on (g gb : Nat) (x : BenS) (A1 A2 : Option Addr) (c1 c2 : Nat) (Ap : Option Addr) (cp : Nat) :
    (benchV g gb x A1 A2 c1 c2 Ap cp).toArray.setIfInBounds 7 (.bool false) = (benchV g gb { x with d := powerS x.d true } A1 A2 c1 c2 Ap cp).toArray := rfl

section
variable (base : Nat) (F0 : List Nat) (g gb b1 b2 : Nat) (x : BenS) (b : BkS) (o : BOp) (v : BOpV) (A1 A2 : Option Addr) (c1 c2 : Nat) (Ap : Option Addr) (cp : Nat) (w : World) (hd : DevAt w g b1 b2 x.d) (hb : BankAt w gb g b) (hx : BenAt base F0 w A1 A2 c1 c2 Ap x)
  (hs : SameB x b) (hB : BigB x.d) (ho : BOpAt w (o, v)) (hbase : base ≤ w.heap.size) (hov : 0 < o.l.length → Off [gb, g, b1, b2] v.a) (hol : o.l.length ≤ 40) (hsub : ∀ y ∈ [gb, g, b1, b2], y ∈ F0) (hF0 : ∀ y ∈ F0, y < w.heap.size)
include hd hb hx hs hB ho hbase hov hol hsub hF0

set_option maxRecDepth 100000 in
set_option maxHeartbeats 4000000 in
theorem one_begin (hk : kindM o.kind = 0) : Calls Try.prog 36 #[.agg (benchV g gb x A1 A2 c1 c2 Ap cp).toArray, .agg (bopCells (o, v)).toArray] w (RetOne base F0 w g gb b1 b2 (oneD x o)) := by
  obtain ⟨e0, e1, e2, k1⟩ := boxO_facts w (benchV g gb x A1 A2 c1 c2 Ap cp) (bopCells (o, v))
  have HW : Hid (((w.alloc (.cells (benchV g gb x A1 A2 c1 c2 Ap cp).toArray 76)).alloc (.cells (bopCells (o, v)).toArray 80)).alloc (.cells zeroBen 76) = boxO w (benchV g gb x A1 A2 c1 c2 Ap cp) (bopCells (o, v))) := show _ = _ from rfl
  generalize boxO w (benchV g gb x A1 A2 c1 c2 Ap cp) (bopCells (o, v)) = W at *
  have HA : Hid (AggOf Try.prog 76 14) := agg_ben
  have HAR : Hid (AggOf Try.prog 57 10) := agg_ref
  obtain ⟨m1, m2, m3⟩ := kindM_facts o.kind
  rw [hk] at m3
  have o0 : W.cell? ⟨w.heap.size + 1, 0, none⟩ = some (.int .i64 o.kind) := e1.cell 0
  have hGL : gb < w.heap.size ∧ g < w.heap.size ∧ b1 < w.heap.size ∧ b2 < w.heap.size := ⟨Blk.lt hb, hd.dev.lt, hd.bits.lt, hd.worn.lt⟩
  obtain ⟨l1, l2, l3, l4⟩ := hGL
  have hsz : w.heap.size + 2 < W.heap.size := e2.lt
  have HXW : Hid (BenAt base (F0 ++ [w.heap.size, w.heap.size + 1, w.heap.size + 1 + 1]) W A1 A2 c1 c2 Ap x) := (hx.widen (G := [w.heap.size, w.heap.size + 1, w.heap.size + 1 + 1]) (fun y hy => by simp only [List.mem_cons, List.not_mem_nil, or_false] at hy; omega)).keep0 k1
  have HFW : Hid (∀ y ∈ F0 ++ [w.heap.size, w.heap.size + 1, w.heap.size + 1 + 1], y < W.heap.size) := fun y hy => by
    rcases List.mem_append.1 hy with hy | hy
    · have := hF0 y hy
      omega
    · simp only [List.mem_cons, List.not_mem_nil, or_false] at hy
      omega
  have HSUB := Lib.hid hsub
  have HE0 := Lib.hid e0
  have HE1 := Lib.hid e1
  have HE2 := Lib.hid e2
  have HK1 := Lib.hid k1
  have HD := Lib.hid hd
  have HBK := Lib.hid hb
  have HS := Lib.hid hs
  have HBG := Lib.hid hB
  have HO := Lib.hid ho
  have HOV := Lib.hid hov
  have _HOLB := Lib.hid (And.intro hol hbase)
  have hone : oneD x o = (beginD x).1 := by unfold oneD; rw [if_pos hk]
  have HSAM := same_begin hs hB
  have HDOC : Hid (∀ W', Keep [] W W' → Calls Try.prog 79 #[.agg (benchV g gb x A1 A2 c1 c2 Ap cp).toArray] W' (RetBen base (F0 ++ [w.heap.size, w.heap.size + 1, w.heap.size + 1 + 1]) W' g gb (beginD x).1 (beginD x).2)) := fun W' kk => by
    have hz := kk.size
    have hf : ∀ y ∈ F0 ++ [w.heap.size, w.heap.size + 1, w.heap.size + 1 + 1], y < W'.heap.size := fun y hy => by have := HFW.out y hy; omega
    have hlen := HS.out.len
    have hrm := HBG.out.room
    exact begin_any08 base _ g gb x A1 A2 c1 c2 Ap cp W' (HXW.out.keep0 kk) HBG.out.ok hf (by omega)
  have HPRG : Hid (∀ W', Keep [w.heap.size] W W' → Calls Try.prog 69 #[.pointer (some ⟨gb, 0, none⟩)] W' fun e w' => e = .returned (.int .i64 (beginD x).2) ∧ DevAt w' g b1 b2 (beginD x).1.d ∧ BankAt w' gb g (beginB x.d b).2.1 ∧ Keep [gb, g, b1, b2] W' w') := fun W' kk => by
    have hni : ∀ y ∈ [gb, g, b1, b2], y ∉ [w.heap.size] := fun y hy => by simp only [List.mem_cons, List.not_mem_nil, or_false] at hy ⊢; omega
    have hdW := (HD.out.keep0 HK1.out).keep kk (hni _ (by simp)) (hni _ (by simp)) (hni _ (by simp))
    have hbW : BankAt W' gb g b := Blk.keep (HBK.out.keep0 HK1.out) kk (hni _ (by simp))
    refine (bbegin_any gb g b1 b2 x.d b W' hbW hdW HBG.out.ok (HS.out.bk HBG.out)).mono ?_
    rintro e w' ⟨rfl, hl⟩
    obtain ⟨s1, s2, s3, s4⟩ := HSAM
    have q1 := hl.dev
    rw [s1] at q1
    exact ⟨by rw [s2], q1, hl.bank, hl.keep⟩
  have HSB : Hid (SameB (beginD x).1 (beginB x.d b).2.1 ∧ BigB (beginD x).1.d) := ⟨HSAM.2.2.1, HSAM.2.2.2⟩
  rw [hone]
  clear HSAM hone e0 e1 e2 k1 hd hb hx hs hB ho hov hsub hF0
  generalize hsb : (beginB x.d b).2.1 = b' at *
  obtain ⟨x', E, hxe⟩ : ∃ x' E, (beginD x) = (x', E) := ⟨_, _, rfl⟩
  rw [hxe] at HDOC HPRG HSB ⊢
  dsimp only at HDOC HPRG HSB ⊢
  clear hxe hsb
  go_enter Try.func36, Try.ntmps36
  go_upto_region 1 with fail
  rw [HW.out]
  clear HW
  go_wp2_with (refine stop_load 76 (.tmp 2) rfl ?_)
  constructor
  refine wpList_load_agg rfl 76 (.tmp 2) rfl rfl (cs := benchV g gb x A1 A2 c1 c2 Ap cp) HA.out HE0.out.cellsAt ?_
  go_wp2_with fail
  refine (HDOC.out W (Keep.refl _ _)).mono ?_
  rintro e w3 ⟨A1', A2', c1', c2', Ap', cp', rfl, hx3, k3⟩
  go_wp2_with (refine stop_store 76 (.tmp 2) (.tmp 31) rfl ?_)
  constructor
  refine wpList_store_all rfl 76 (.tmp 2) (.tmp 31) rfl rfl rfl (t := 76) (cs := (benchV g gb x A1 A2 c1 c2 Ap cp).toArray) (vs := benchV g gb x' A1' A2' c1' c2' Ap' cp') HA.out.2 (HE0.out.keep0 k3) (benchV_one _ _ _ _ _ _ _ _ _) rfl ?_
  intro w4 d4 k4
  have K4 : Keep [w.heap.size] W w4 := Keep.trans (k3.mono (G := [w.heap.size]) (by simp)) k4 (fun y hy _ => hy)
  have pg : w4.cell? ⟨w.heap.size, 1, none⟩ = some (.pointer (some ⟨gb, 0, none⟩)) := (d4.cell 1).trans (bench_gb _ _ _ _ _ _ _ _ _)
  have po : w4.cell? ⟨w.heap.size + 1, 0, none⟩ = some (.int .i64 o.kind) := (HE1.out.keep K4 (by simp)).cell 0
  have pk : w4.cell? ⟨w.heap.size + 1, 0, none⟩ = some (.int .i64 o.kind) := (HE1.out.keep K4 (by simp)).cell 0
  have HX4 := Lib.hid (hx3.keep (k4.mono (by simp)))
  have HD4 := Lib.hid d4
  have HE24 := Lib.hid (HE2.out.keep K4 (by simp only [List.mem_cons, List.not_mem_nil, or_false]; omega))
  have HK4 := Lib.hid K4
  have HPC := Lib.hid (HPRG.out w4 K4)
  clear hx3 k3 d4 k4 K4 HDOC HPRG HE0 HE1 HE2 o0
  go_wp2_with fail
  refine HPC.out.mono ?_
  rintro e w5 ⟨rfl, hd5, hb5, k5⟩
  have HD5 := Lib.hid hd5
  have HB5 := Lib.hid hb5
  have HX5 := Lib.hid (HX4.out.keep (k5.mono (fun y hy _ => List.mem_append_left _ (HSUB.out y hy))))
  have HDD5 := Lib.hid (HD4.out.keep k5 (by simp only [List.mem_cons, List.not_mem_nil, or_false]; omega))
  have HE25 := Lib.hid (HE24.out.keep k5 (by simp only [List.mem_cons, List.not_mem_nil, or_false]; omega))
  have HK5 : Hid (Keep [gb, g, b1, b2] w w5) := Keep.trans ((HK1.out.trans HK4.out (fun y hy hl => by simp only [List.mem_cons, List.not_mem_nil, or_false] at hy; omega)).mono (G := [gb, g, b1, b2]) (by simp)) k5 (fun y hy _ => hy)
  clear hd5 hb5 k5 HD4 HX4 HE24 HPC HK4 pg po pk
  go_upto_region 25 with fail
  go_wp2_with (refine stop_load 76 (.tmp 2) rfl ?_)
  constructor
  refine wpList_load_agg rfl 76 (.tmp 2) rfl rfl (cs := benchV g gb x' A1' A2' c1' c2' Ap' cp') HA.out HDD5.out.cellsAt ?_
  go_wp2_with (refine wpList_store_all rfl 76 (.tmp 4) (.tmp 99) rfl rfl rfl (t := 76) (cs := zeroBen) (vs := benchV g gb x' A1' A2' c1' c2' Ap' cp') HA.out.2 ?_ (benchV_one _ _ _ _ _ _ _ _ _) rfl ?_; exact HE25.out; intro w6 e6 k6)
  refine bodyPost_ret (results_blk_tmp rfl _ rfl rfl e6 HA.out) rfl ?_
  obtain ⟨s1, s2⟩ := HSB.out
  have hni : ∀ y ∈ [gb, g, b1, b2], y ∉ [w.heap.size + 1 + 1] := fun y hy => by simp only [List.mem_cons, List.not_mem_nil, or_false] at hy ⊢; omega
  refine ⟨b', A1', A2', c1', c2', Ap', cp', rfl, HD5.out.keep k6 (hni _ (by simp)) (hni _ (by simp)) (hni _ (by simp)), Blk.keep HB5.out k6 (hni _ (by simp)), (HX5.out.keep (k6.mono (by simp))).narrow, s1, s2, HK5.out.trans k6 (fun y hy hl => by simp only [List.mem_cons, List.not_mem_nil, or_false] at hy; omega)⟩

set_option maxRecDepth 100000 in
set_option maxHeartbeats 4000000 in
theorem one_commit (hk : kindM o.kind = 3) : Calls Try.prog 36 #[.agg (benchV g gb x A1 A2 c1 c2 Ap cp).toArray, .agg (bopCells (o, v)).toArray] w (RetOne base F0 w g gb b1 b2 (oneD x o)) := by
  obtain ⟨e0, e1, e2, k1⟩ := boxO_facts w (benchV g gb x A1 A2 c1 c2 Ap cp) (bopCells (o, v))
  have HW : Hid (((w.alloc (.cells (benchV g gb x A1 A2 c1 c2 Ap cp).toArray 76)).alloc (.cells (bopCells (o, v)).toArray 80)).alloc (.cells zeroBen 76) = boxO w (benchV g gb x A1 A2 c1 c2 Ap cp) (bopCells (o, v))) := show _ = _ from rfl
  generalize boxO w (benchV g gb x A1 A2 c1 c2 Ap cp) (bopCells (o, v)) = W at *
  have HA : Hid (AggOf Try.prog 76 14) := agg_ben
  have HAR : Hid (AggOf Try.prog 57 10) := agg_ref
  obtain ⟨m1, m2, m3⟩ := kindM_facts o.kind
  rw [hk] at m3
  have o0 : W.cell? ⟨w.heap.size + 1, 0, none⟩ = some (.int .i64 o.kind) := e1.cell 0
  have hGL : gb < w.heap.size ∧ g < w.heap.size ∧ b1 < w.heap.size ∧ b2 < w.heap.size := ⟨Blk.lt hb, hd.dev.lt, hd.bits.lt, hd.worn.lt⟩
  obtain ⟨l1, l2, l3, l4⟩ := hGL
  have hsz : w.heap.size + 2 < W.heap.size := e2.lt
  have HXW : Hid (BenAt base (F0 ++ [w.heap.size, w.heap.size + 1, w.heap.size + 1 + 1]) W A1 A2 c1 c2 Ap x) := (hx.widen (G := [w.heap.size, w.heap.size + 1, w.heap.size + 1 + 1]) (fun y hy => by simp only [List.mem_cons, List.not_mem_nil, or_false] at hy; omega)).keep0 k1
  have HFW : Hid (∀ y ∈ F0 ++ [w.heap.size, w.heap.size + 1, w.heap.size + 1 + 1], y < W.heap.size) := fun y hy => by
    rcases List.mem_append.1 hy with hy | hy
    · have := hF0 y hy
      omega
    · simp only [List.mem_cons, List.not_mem_nil, or_false] at hy
      omega
  have HSUB := Lib.hid hsub
  have HE0 := Lib.hid e0
  have HE1 := Lib.hid e1
  have HE2 := Lib.hid e2
  have HK1 := Lib.hid k1
  have HD := Lib.hid hd
  have HBK := Lib.hid hb
  have HS := Lib.hid hs
  have HBG := Lib.hid hB
  have HO := Lib.hid ho
  have HOV := Lib.hid hov
  have _HOLB := Lib.hid (And.intro hol hbase)
  have hone : oneD x o = (commitD x (qB o.n)).1 := by unfold oneD; rw [if_neg (by rw [hk]; decide), if_pos hk]
  have HSAM := same_commit hs hB (qB_lt o.n)
  have HDOC : Hid (∀ W', Keep [] W W' → Calls Try.prog 80 #[.agg (benchV g gb x A1 A2 c1 c2 Ap cp).toArray, .int .u32 (qB o.n : Int)] W' (RetBen base (F0 ++ [w.heap.size, w.heap.size + 1, w.heap.size + 1 + 1]) W' g gb (commitD x (qB o.n)).1 (commitD x (qB o.n)).2)) := fun W' kk => by
    have hz := kk.size
    have hf : ∀ y ∈ F0 ++ [w.heap.size, w.heap.size + 1, w.heap.size + 1 + 1], y < W'.heap.size := fun y hy => by have := HFW.out y hy; omega
    have hlen := HS.out.len
    have hrm := HBG.out.room
    exact commit_any08 base _ g gb x (qB o.n) A1 A2 c1 c2 Ap cp W' (HXW.out.keep0 kk) HBG.out.ok hf (by omega) (by omega) HS.out.lt (qB_lt _)
  have HPRG : Hid (∀ W', Keep [w.heap.size] W W' → Calls Try.prog 71 #[.pointer (some ⟨gb, 0, none⟩), .int .u32 (qB o.n : Int)] W' fun e w' => e = .returned (.int .i64 (commitD x (qB o.n)).2) ∧ DevAt w' g b1 b2 (commitD x (qB o.n)).1.d ∧ BankAt w' gb g (commitB x.d b (qB o.n)).2.1 ∧ Keep [gb, g, b1, b2] W' w') := fun W' kk => by
    have hni : ∀ y ∈ [gb, g, b1, b2], y ∉ [w.heap.size] := fun y hy => by simp only [List.mem_cons, List.not_mem_nil, or_false] at hy ⊢; omega
    have hdW := (HD.out.keep0 HK1.out).keep kk (hni _ (by simp)) (hni _ (by simp)) (hni _ (by simp))
    have hbW : BankAt W' gb g b := Blk.keep (HBK.out.keep0 HK1.out) kk (hni _ (by simp))
    refine (bcommit_any gb g b1 b2 x.d b (qB o.n) W' hbW hdW HBG.out.ok (HS.out.bk HBG.out) (by have := HS.out.pn2; omega) HS.out.s2 (qB_lt _)).mono ?_
    rintro e w' ⟨rfl, hl⟩
    obtain ⟨s1, s2, s3, s4⟩ := HSAM
    have q1 := hl.dev
    rw [s1] at q1
    exact ⟨by rw [s2], q1, hl.bank, hl.keep⟩
  have HSB : Hid (SameB (commitD x (qB o.n)).1 (commitB x.d b (qB o.n)).2.1 ∧ BigB (commitD x (qB o.n)).1.d) := ⟨HSAM.2.2.1, HSAM.2.2.2⟩
  rw [hone]
  clear HSAM hone e0 e1 e2 k1 hd hb hx hs hB ho hov hsub hF0
  generalize hsb : (commitB x.d b (qB o.n)).2.1 = b' at *
  obtain ⟨x', E, hxe⟩ : ∃ x' E, (commitD x (qB o.n)) = (x', E) := ⟨_, _, rfl⟩
  rw [hxe] at HDOC HPRG HSB ⊢
  dsimp only at HDOC HPRG HSB ⊢
  clear hxe hsb
  have hqw := qB_wrap o.n
  have o1 : W.cell? ⟨w.heap.size + 1, 1, none⟩ = some (.int .i64 o.n) := HE1.out.cell 1
  go_enter Try.func36, Try.ntmps36
  go_upto_region 1 with fail
  rw [HW.out]
  clear HW
  go_wp2_with (refine stop_load 76 (.tmp 2) rfl ?_)
  constructor
  refine wpList_load_agg rfl 76 (.tmp 2) rfl rfl (cs := benchV g gb x A1 A2 c1 c2 Ap cp) HA.out HE0.out.cellsAt ?_
  go_wp2_with fail
  refine (HDOC.out W (Keep.refl _ _)).mono ?_
  rintro e w3 ⟨A1', A2', c1', c2', Ap', cp', rfl, hx3, k3⟩
  go_wp2_with (refine stop_store 76 (.tmp 2) (.tmp 44) rfl ?_)
  constructor
  refine wpList_store_all rfl 76 (.tmp 2) (.tmp 44) rfl rfl rfl (t := 76) (cs := (benchV g gb x A1 A2 c1 c2 Ap cp).toArray) (vs := benchV g gb x' A1' A2' c1' c2' Ap' cp') HA.out.2 (HE0.out.keep0 k3) (benchV_one _ _ _ _ _ _ _ _ _) rfl ?_
  intro w4 d4 k4
  have K4 : Keep [w.heap.size] W w4 := Keep.trans (k3.mono (G := [w.heap.size]) (by simp)) k4 (fun y hy _ => hy)
  have pg : w4.cell? ⟨w.heap.size, 1, none⟩ = some (.pointer (some ⟨gb, 0, none⟩)) := (d4.cell 1).trans (bench_gb _ _ _ _ _ _ _ _ _)
  have po : w4.cell? ⟨w.heap.size + 1, 1, none⟩ = some (.int .i64 o.n) := (HE1.out.keep K4 (by simp)).cell 1
  have pk : w4.cell? ⟨w.heap.size + 1, 0, none⟩ = some (.int .i64 o.kind) := (HE1.out.keep K4 (by simp)).cell 0
  have HX4 := Lib.hid (hx3.keep (k4.mono (by simp)))
  have HD4 := Lib.hid d4
  have HE24 := Lib.hid (HE2.out.keep K4 (by simp only [List.mem_cons, List.not_mem_nil, or_false]; omega))
  have HK4 := Lib.hid K4
  have HPC := Lib.hid (HPRG.out w4 K4)
  clear hx3 k3 d4 k4 K4 HDOC HPRG HE0 HE1 HE2 o0
  go_wp2_with fail
  refine HPC.out.mono ?_
  rintro e w5 ⟨rfl, hd5, hb5, k5⟩
  have HD5 := Lib.hid hd5
  have HB5 := Lib.hid hb5
  have HX5 := Lib.hid (HX4.out.keep (k5.mono (fun y hy _ => List.mem_append_left _ (HSUB.out y hy))))
  have HDD5 := Lib.hid (HD4.out.keep k5 (by simp only [List.mem_cons, List.not_mem_nil, or_false]; omega))
  have HE25 := Lib.hid (HE24.out.keep k5 (by simp only [List.mem_cons, List.not_mem_nil, or_false]; omega))
  have HK5 : Hid (Keep [gb, g, b1, b2] w w5) := Keep.trans ((HK1.out.trans HK4.out (fun y hy hl => by simp only [List.mem_cons, List.not_mem_nil, or_false] at hy; omega)).mono (G := [gb, g, b1, b2]) (by simp)) k5 (fun y hy _ => hy)
  clear hd5 hb5 k5 HD4 HX4 HE24 HPC HK4 pg po pk
  go_upto_region 25 with fail
  go_wp2_with (refine stop_load 76 (.tmp 2) rfl ?_)
  constructor
  refine wpList_load_agg rfl 76 (.tmp 2) rfl rfl (cs := benchV g gb x' A1' A2' c1' c2' Ap' cp') HA.out HDD5.out.cellsAt ?_
  go_wp2_with (refine wpList_store_all rfl 76 (.tmp 4) (.tmp 99) rfl rfl rfl (t := 76) (cs := zeroBen) (vs := benchV g gb x' A1' A2' c1' c2' Ap' cp') HA.out.2 ?_ (benchV_one _ _ _ _ _ _ _ _ _) rfl ?_; exact HE25.out; intro w6 e6 k6)
  refine bodyPost_ret (results_blk_tmp rfl _ rfl rfl e6 HA.out) rfl ?_
  obtain ⟨s1, s2⟩ := HSB.out
  have hni : ∀ y ∈ [gb, g, b1, b2], y ∉ [w.heap.size + 1 + 1] := fun y hy => by simp only [List.mem_cons, List.not_mem_nil, or_false] at hy ⊢; omega
  refine ⟨b', A1', A2', c1', c2', Ap', cp', rfl, HD5.out.keep k6 (hni _ (by simp)) (hni _ (by simp)) (hni _ (by simp)), Blk.keep HB5.out k6 (hni _ (by simp)), (HX5.out.keep (k6.mono (by simp))).narrow, s1, s2, HK5.out.trans k6 (fun y hy hl => by simp only [List.mem_cons, List.not_mem_nil, or_false] at hy; omega)⟩

set_option maxRecDepth 100000 in
set_option maxHeartbeats 4000000 in
theorem one_confirm (hk : kindM o.kind = 4) : Calls Try.prog 36 #[.agg (benchV g gb x A1 A2 c1 c2 Ap cp).toArray, .agg (bopCells (o, v)).toArray] w (RetOne base F0 w g gb b1 b2 (oneD x o)) := by
  obtain ⟨e0, e1, e2, k1⟩ := boxO_facts w (benchV g gb x A1 A2 c1 c2 Ap cp) (bopCells (o, v))
  have HW : Hid (((w.alloc (.cells (benchV g gb x A1 A2 c1 c2 Ap cp).toArray 76)).alloc (.cells (bopCells (o, v)).toArray 80)).alloc (.cells zeroBen 76) = boxO w (benchV g gb x A1 A2 c1 c2 Ap cp) (bopCells (o, v))) := show _ = _ from rfl
  generalize boxO w (benchV g gb x A1 A2 c1 c2 Ap cp) (bopCells (o, v)) = W at *
  have HA : Hid (AggOf Try.prog 76 14) := agg_ben
  have HAR : Hid (AggOf Try.prog 57 10) := agg_ref
  obtain ⟨m1, m2, m3⟩ := kindM_facts o.kind
  rw [hk] at m3
  have o0 : W.cell? ⟨w.heap.size + 1, 0, none⟩ = some (.int .i64 o.kind) := e1.cell 0
  have hGL : gb < w.heap.size ∧ g < w.heap.size ∧ b1 < w.heap.size ∧ b2 < w.heap.size := ⟨Blk.lt hb, hd.dev.lt, hd.bits.lt, hd.worn.lt⟩
  obtain ⟨l1, l2, l3, l4⟩ := hGL
  have hsz : w.heap.size + 2 < W.heap.size := e2.lt
  have HXW : Hid (BenAt base (F0 ++ [w.heap.size, w.heap.size + 1, w.heap.size + 1 + 1]) W A1 A2 c1 c2 Ap x) := (hx.widen (G := [w.heap.size, w.heap.size + 1, w.heap.size + 1 + 1]) (fun y hy => by simp only [List.mem_cons, List.not_mem_nil, or_false] at hy; omega)).keep0 k1
  have HFW : Hid (∀ y ∈ F0 ++ [w.heap.size, w.heap.size + 1, w.heap.size + 1 + 1], y < W.heap.size) := fun y hy => by
    rcases List.mem_append.1 hy with hy | hy
    · have := hF0 y hy
      omega
    · simp only [List.mem_cons, List.not_mem_nil, or_false] at hy
      omega
  have HSUB := Lib.hid hsub
  have HE0 := Lib.hid e0
  have HE1 := Lib.hid e1
  have HE2 := Lib.hid e2
  have HK1 := Lib.hid k1
  have HD := Lib.hid hd
  have HBK := Lib.hid hb
  have HS := Lib.hid hs
  have HBG := Lib.hid hB
  have HO := Lib.hid ho
  have HOV := Lib.hid hov
  have _HOLB := Lib.hid (And.intro hol hbase)
  have hone : oneD x o = (markD x false).1 := by unfold oneD; rw [if_neg (by rw [hk]; decide), if_neg (by rw [hk]; decide), if_pos hk]
  have HSAM := same_confirm hs hB
  have HDOC : Hid (∀ W', Keep [] W W' → Calls Try.prog 81 #[.agg (benchV g gb x A1 A2 c1 c2 Ap cp).toArray, .bool false] W' (RetBen base (F0 ++ [w.heap.size, w.heap.size + 1, w.heap.size + 1 + 1]) W' g gb (markD x false).1 (markD x false).2)) := fun W' kk => by
    have hz := kk.size
    have hf : ∀ y ∈ F0 ++ [w.heap.size, w.heap.size + 1, w.heap.size + 1 + 1], y < W'.heap.size := fun y hy => by have := HFW.out y hy; omega
    have hlen := HS.out.len
    have hrm := HBG.out.room
    exact mark_any08 base _ g gb x false A1 A2 c1 c2 Ap cp W' (HXW.out.keep0 kk) HBG.out.ok HBG.out.three hf (by omega)
  have HPRG : Hid (∀ W', Keep [w.heap.size] W W' → Calls Try.prog 83 #[.pointer (some ⟨gb, 0, none⟩)] W' fun e w' => e = .returned (.int .i64 (markD x false).2) ∧ DevAt w' g b1 b2 (markD x false).1.d ∧ BankAt w' gb g b ∧ Keep [gb, g, b1, b2] W' w') := fun W' kk => by
    have hni : ∀ y ∈ [gb, g, b1, b2], y ∉ [w.heap.size] := fun y hy => by simp only [List.mem_cons, List.not_mem_nil, or_false] at hy ⊢; omega
    have hdW := (HD.out.keep0 HK1.out).keep kk (hni _ (by simp)) (hni _ (by simp)) (hni _ (by simp))
    have hbW : BankAt W' gb g b := Blk.keep (HBK.out.keep0 HK1.out) kk (hni _ (by simp))
    refine (bconfirm_any gb g b1 b2 x.d b W' hbW hdW HBG.out.ok (HS.out.bk HBG.out)).mono ?_
    rintro e w' ⟨rfl, hl⟩
    obtain ⟨s1, s2, s3, s4⟩ := HSAM
    have q1 := hl.dev
    rw [s1] at q1
    exact ⟨by rw [s2], q1, hl.bank, hl.keep⟩
  have HSB : Hid (SameB (markD x false).1 b ∧ BigB (markD x false).1.d) := ⟨HSAM.2.2.1, HSAM.2.2.2⟩
  rw [hone]
  clear HSAM hone e0 e1 e2 k1 hd hb hx hs hB ho hov hsub hF0
  generalize hsb : b = b' at *
  obtain ⟨x', E, hxe⟩ : ∃ x' E, (markD x false) = (x', E) := ⟨_, _, rfl⟩
  rw [hxe] at HDOC HPRG HSB ⊢
  dsimp only at HDOC HPRG HSB ⊢
  clear hxe hsb
  go_enter Try.func36, Try.ntmps36
  go_upto_region 1 with fail
  rw [HW.out]
  clear HW
  go_wp2_with (refine stop_load 76 (.tmp 2) rfl ?_)
  constructor
  refine wpList_load_agg rfl 76 (.tmp 2) rfl rfl (cs := benchV g gb x A1 A2 c1 c2 Ap cp) HA.out HE0.out.cellsAt ?_
  go_wp2_with fail
  refine (HDOC.out W (Keep.refl _ _)).mono ?_
  rintro e w3 ⟨A1', A2', c1', c2', Ap', cp', rfl, hx3, k3⟩
  go_wp2_with (refine stop_store 76 (.tmp 2) (.tmp 65) rfl ?_)
  constructor
  refine wpList_store_all rfl 76 (.tmp 2) (.tmp 65) rfl rfl rfl (t := 76) (cs := (benchV g gb x A1 A2 c1 c2 Ap cp).toArray) (vs := benchV g gb x' A1' A2' c1' c2' Ap' cp') HA.out.2 (HE0.out.keep0 k3) (benchV_one _ _ _ _ _ _ _ _ _) rfl ?_
  intro w4 d4 k4
  have K4 : Keep [w.heap.size] W w4 := Keep.trans (k3.mono (G := [w.heap.size]) (by simp)) k4 (fun y hy _ => hy)
  have pg : w4.cell? ⟨w.heap.size, 1, none⟩ = some (.pointer (some ⟨gb, 0, none⟩)) := (d4.cell 1).trans (bench_gb _ _ _ _ _ _ _ _ _)
  have po : w4.cell? ⟨w.heap.size + 1, 0, none⟩ = some (.int .i64 o.kind) := (HE1.out.keep K4 (by simp)).cell 0
  have pk : w4.cell? ⟨w.heap.size + 1, 0, none⟩ = some (.int .i64 o.kind) := (HE1.out.keep K4 (by simp)).cell 0
  have HX4 := Lib.hid (hx3.keep (k4.mono (by simp)))
  have HD4 := Lib.hid d4
  have HE24 := Lib.hid (HE2.out.keep K4 (by simp only [List.mem_cons, List.not_mem_nil, or_false]; omega))
  have HK4 := Lib.hid K4
  have HPC := Lib.hid (HPRG.out w4 K4)
  clear hx3 k3 d4 k4 K4 HDOC HPRG HE0 HE1 HE2 o0
  go_wp2_with fail
  refine HPC.out.mono ?_
  rintro e w5 ⟨rfl, hd5, hb5, k5⟩
  have HD5 := Lib.hid hd5
  have HB5 := Lib.hid hb5
  have HX5 := Lib.hid (HX4.out.keep (k5.mono (fun y hy _ => List.mem_append_left _ (HSUB.out y hy))))
  have HDD5 := Lib.hid (HD4.out.keep k5 (by simp only [List.mem_cons, List.not_mem_nil, or_false]; omega))
  have HE25 := Lib.hid (HE24.out.keep k5 (by simp only [List.mem_cons, List.not_mem_nil, or_false]; omega))
  have HK5 : Hid (Keep [gb, g, b1, b2] w w5) := Keep.trans ((HK1.out.trans HK4.out (fun y hy hl => by simp only [List.mem_cons, List.not_mem_nil, or_false] at hy; omega)).mono (G := [gb, g, b1, b2]) (by simp)) k5 (fun y hy _ => hy)
  clear hd5 hb5 k5 HD4 HX4 HE24 HPC HK4 pg po pk
  go_upto_region 25 with fail
  go_wp2_with (refine stop_load 76 (.tmp 2) rfl ?_)
  constructor
  refine wpList_load_agg rfl 76 (.tmp 2) rfl rfl (cs := benchV g gb x' A1' A2' c1' c2' Ap' cp') HA.out HDD5.out.cellsAt ?_
  go_wp2_with (refine wpList_store_all rfl 76 (.tmp 4) (.tmp 99) rfl rfl rfl (t := 76) (cs := zeroBen) (vs := benchV g gb x' A1' A2' c1' c2' Ap' cp') HA.out.2 ?_ (benchV_one _ _ _ _ _ _ _ _ _) rfl ?_; exact HE25.out; intro w6 e6 k6)
  refine bodyPost_ret (results_blk_tmp rfl _ rfl rfl e6 HA.out) rfl ?_
  obtain ⟨s1, s2⟩ := HSB.out
  have hni : ∀ y ∈ [gb, g, b1, b2], y ∉ [w.heap.size + 1 + 1] := fun y hy => by simp only [List.mem_cons, List.not_mem_nil, or_false] at hy ⊢; omega
  refine ⟨b', A1', A2', c1', c2', Ap', cp', rfl, HD5.out.keep k6 (hni _ (by simp)) (hni _ (by simp)) (hni _ (by simp)), Blk.keep HB5.out k6 (hni _ (by simp)), (HX5.out.keep (k6.mono (by simp))).narrow, s1, s2, HK5.out.trans k6 (fun y hy hl => by simp only [List.mem_cons, List.not_mem_nil, or_false] at hy; omega)⟩

set_option maxRecDepth 100000 in
set_option maxHeartbeats 4000000 in
theorem one_try (hk : kindM o.kind = 5) : Calls Try.prog 36 #[.agg (benchV g gb x A1 A2 c1 c2 Ap cp).toArray, .agg (bopCells (o, v)).toArray] w (RetOne base F0 w g gb b1 b2 (oneD x o)) := by
  obtain ⟨e0, e1, e2, k1⟩ := boxO_facts w (benchV g gb x A1 A2 c1 c2 Ap cp) (bopCells (o, v))
  have HW : Hid (((w.alloc (.cells (benchV g gb x A1 A2 c1 c2 Ap cp).toArray 76)).alloc (.cells (bopCells (o, v)).toArray 80)).alloc (.cells zeroBen 76) = boxO w (benchV g gb x A1 A2 c1 c2 Ap cp) (bopCells (o, v))) := show _ = _ from rfl
  generalize boxO w (benchV g gb x A1 A2 c1 c2 Ap cp) (bopCells (o, v)) = W at *
  have HA : Hid (AggOf Try.prog 76 14) := agg_ben
  have HAR : Hid (AggOf Try.prog 57 10) := agg_ref
  obtain ⟨m1, m2, m3⟩ := kindM_facts o.kind
  rw [hk] at m3
  have o0 : W.cell? ⟨w.heap.size + 1, 0, none⟩ = some (.int .i64 o.kind) := e1.cell 0
  have hGL : gb < w.heap.size ∧ g < w.heap.size ∧ b1 < w.heap.size ∧ b2 < w.heap.size := ⟨Blk.lt hb, hd.dev.lt, hd.bits.lt, hd.worn.lt⟩
  obtain ⟨l1, l2, l3, l4⟩ := hGL
  have hsz : w.heap.size + 2 < W.heap.size := e2.lt
  have HXW : Hid (BenAt base (F0 ++ [w.heap.size, w.heap.size + 1, w.heap.size + 1 + 1]) W A1 A2 c1 c2 Ap x) := (hx.widen (G := [w.heap.size, w.heap.size + 1, w.heap.size + 1 + 1]) (fun y hy => by simp only [List.mem_cons, List.not_mem_nil, or_false] at hy; omega)).keep0 k1
  have HFW : Hid (∀ y ∈ F0 ++ [w.heap.size, w.heap.size + 1, w.heap.size + 1 + 1], y < W.heap.size) := fun y hy => by
    rcases List.mem_append.1 hy with hy | hy
    · have := hF0 y hy
      omega
    · simp only [List.mem_cons, List.not_mem_nil, or_false] at hy
      omega
  have HSUB := Lib.hid hsub
  have HE0 := Lib.hid e0
  have HE1 := Lib.hid e1
  have HE2 := Lib.hid e2
  have HK1 := Lib.hid k1
  have HD := Lib.hid hd
  have HBK := Lib.hid hb
  have HS := Lib.hid hs
  have HBG := Lib.hid hB
  have HO := Lib.hid ho
  have HOV := Lib.hid hov
  have _HOLB := Lib.hid (And.intro hol hbase)
  have hone : oneD x o = (markD x true).1 := by unfold oneD; rw [if_neg (by rw [hk]; decide), if_neg (by rw [hk]; decide), if_neg (by rw [hk]; decide), if_pos hk]
  have HSAM := same_try hs hB
  have HDOC : Hid (∀ W', Keep [] W W' → Calls Try.prog 81 #[.agg (benchV g gb x A1 A2 c1 c2 Ap cp).toArray, .bool true] W' (RetBen base (F0 ++ [w.heap.size, w.heap.size + 1, w.heap.size + 1 + 1]) W' g gb (markD x true).1 (markD x true).2)) := fun W' kk => by
    have hz := kk.size
    have hf : ∀ y ∈ F0 ++ [w.heap.size, w.heap.size + 1, w.heap.size + 1 + 1], y < W'.heap.size := fun y hy => by have := HFW.out y hy; omega
    have hlen := HS.out.len
    have hrm := HBG.out.room
    exact mark_any08 base _ g gb x true A1 A2 c1 c2 Ap cp W' (HXW.out.keep0 kk) HBG.out.ok HBG.out.three hf (by omega)
  have HPRG : Hid (∀ W', Keep [w.heap.size] W W' → Calls Try.prog 82 #[.pointer (some ⟨gb, 0, none⟩)] W' fun e w' => e = .returned (.int .i64 (markD x true).2) ∧ DevAt w' g b1 b2 (markD x true).1.d ∧ BankAt w' gb g b ∧ Keep [gb, g, b1, b2] W' w') := fun W' kk => by
    have hni : ∀ y ∈ [gb, g, b1, b2], y ∉ [w.heap.size] := fun y hy => by simp only [List.mem_cons, List.not_mem_nil, or_false] at hy ⊢; omega
    have hdW := (HD.out.keep0 HK1.out).keep kk (hni _ (by simp)) (hni _ (by simp)) (hni _ (by simp))
    have hbW : BankAt W' gb g b := Blk.keep (HBK.out.keep0 HK1.out) kk (hni _ (by simp))
    refine (btry_any gb g b1 b2 x.d b W' hbW hdW HBG.out.ok (HS.out.bk HBG.out)).mono ?_
    rintro e w' ⟨rfl, hl⟩
    obtain ⟨s1, s2, s3, s4⟩ := HSAM
    have q1 := hl.dev
    rw [s1] at q1
    exact ⟨by rw [s2], q1, hl.bank, hl.keep⟩
  have HSB : Hid (SameB (markD x true).1 b ∧ BigB (markD x true).1.d) := ⟨HSAM.2.2.1, HSAM.2.2.2⟩
  rw [hone]
  clear HSAM hone e0 e1 e2 k1 hd hb hx hs hB ho hov hsub hF0
  generalize hsb : b = b' at *
  obtain ⟨x', E, hxe⟩ : ∃ x' E, (markD x true) = (x', E) := ⟨_, _, rfl⟩
  rw [hxe] at HDOC HPRG HSB ⊢
  dsimp only at HDOC HPRG HSB ⊢
  clear hxe hsb
  go_enter Try.func36, Try.ntmps36
  go_upto_region 1 with fail
  rw [HW.out]
  clear HW
  go_wp2_with (refine stop_load 76 (.tmp 2) rfl ?_)
  constructor
  refine wpList_load_agg rfl 76 (.tmp 2) rfl rfl (cs := benchV g gb x A1 A2 c1 c2 Ap cp) HA.out HE0.out.cellsAt ?_
  go_wp2_with fail
  refine (HDOC.out W (Keep.refl _ _)).mono ?_
  rintro e w3 ⟨A1', A2', c1', c2', Ap', cp', rfl, hx3, k3⟩
  go_wp2_with (refine stop_store 76 (.tmp 2) (.tmp 65) rfl ?_)
  constructor
  refine wpList_store_all rfl 76 (.tmp 2) (.tmp 65) rfl rfl rfl (t := 76) (cs := (benchV g gb x A1 A2 c1 c2 Ap cp).toArray) (vs := benchV g gb x' A1' A2' c1' c2' Ap' cp') HA.out.2 (HE0.out.keep0 k3) (benchV_one _ _ _ _ _ _ _ _ _) rfl ?_
  intro w4 d4 k4
  have K4 : Keep [w.heap.size] W w4 := Keep.trans (k3.mono (G := [w.heap.size]) (by simp)) k4 (fun y hy _ => hy)
  have pg : w4.cell? ⟨w.heap.size, 1, none⟩ = some (.pointer (some ⟨gb, 0, none⟩)) := (d4.cell 1).trans (bench_gb _ _ _ _ _ _ _ _ _)
  have po : w4.cell? ⟨w.heap.size + 1, 0, none⟩ = some (.int .i64 o.kind) := (HE1.out.keep K4 (by simp)).cell 0
  have pk : w4.cell? ⟨w.heap.size + 1, 0, none⟩ = some (.int .i64 o.kind) := (HE1.out.keep K4 (by simp)).cell 0
  have HX4 := Lib.hid (hx3.keep (k4.mono (by simp)))
  have HD4 := Lib.hid d4
  have HE24 := Lib.hid (HE2.out.keep K4 (by simp only [List.mem_cons, List.not_mem_nil, or_false]; omega))
  have HK4 := Lib.hid K4
  have HPC := Lib.hid (HPRG.out w4 K4)
  clear hx3 k3 d4 k4 K4 HDOC HPRG HE0 HE1 HE2 o0
  go_wp2_with fail
  refine HPC.out.mono ?_
  rintro e w5 ⟨rfl, hd5, hb5, k5⟩
  have HD5 := Lib.hid hd5
  have HB5 := Lib.hid hb5
  have HX5 := Lib.hid (HX4.out.keep (k5.mono (fun y hy _ => List.mem_append_left _ (HSUB.out y hy))))
  have HDD5 := Lib.hid (HD4.out.keep k5 (by simp only [List.mem_cons, List.not_mem_nil, or_false]; omega))
  have HE25 := Lib.hid (HE24.out.keep k5 (by simp only [List.mem_cons, List.not_mem_nil, or_false]; omega))
  have HK5 : Hid (Keep [gb, g, b1, b2] w w5) := Keep.trans ((HK1.out.trans HK4.out (fun y hy hl => by simp only [List.mem_cons, List.not_mem_nil, or_false] at hy; omega)).mono (G := [gb, g, b1, b2]) (by simp)) k5 (fun y hy _ => hy)
  clear hd5 hb5 k5 HD4 HX4 HE24 HPC HK4 pg po pk
  go_upto_region 25 with fail
  go_wp2_with (refine stop_load 76 (.tmp 2) rfl ?_)
  constructor
  refine wpList_load_agg rfl 76 (.tmp 2) rfl rfl (cs := benchV g gb x' A1' A2' c1' c2' Ap' cp') HA.out HDD5.out.cellsAt ?_
  go_wp2_with (refine wpList_store_all rfl 76 (.tmp 4) (.tmp 99) rfl rfl rfl (t := 76) (cs := zeroBen) (vs := benchV g gb x' A1' A2' c1' c2' Ap' cp') HA.out.2 ?_ (benchV_one _ _ _ _ _ _ _ _ _) rfl ?_; exact HE25.out; intro w6 e6 k6)
  refine bodyPost_ret (results_blk_tmp rfl _ rfl rfl e6 HA.out) rfl ?_
  obtain ⟨s1, s2⟩ := HSB.out
  have hni : ∀ y ∈ [gb, g, b1, b2], y ∉ [w.heap.size + 1 + 1] := fun y hy => by simp only [List.mem_cons, List.not_mem_nil, or_false] at hy ⊢; omega
  refine ⟨b', A1', A2', c1', c2', Ap', cp', rfl, HD5.out.keep k6 (hni _ (by simp)) (hni _ (by simp)) (hni _ (by simp)), Blk.keep HB5.out k6 (hni _ (by simp)), (HX5.out.keep (k6.mono (by simp))).narrow, s1, s2, HK5.out.trans k6 (fun y hy hl => by simp only [List.mem_cons, List.not_mem_nil, or_false] at hy; omega)⟩

set_option maxRecDepth 100000 in
set_option maxHeartbeats 4000000 in
theorem one_put1 (hk : kindM o.kind = 1) : Calls Try.prog 36 #[.agg (benchV g gb x A1 A2 c1 c2 Ap cp).toArray, .agg (bopCells (o, v)).toArray] w (RetOne base F0 w g gb b1 b2 (oneD x o)) := by
  obtain ⟨e0, e1, e2, k1⟩ := boxO_facts w (benchV g gb x A1 A2 c1 c2 Ap cp) (bopCells (o, v))
  have HW : Hid (((w.alloc (.cells (benchV g gb x A1 A2 c1 c2 Ap cp).toArray 76)).alloc (.cells (bopCells (o, v)).toArray 80)).alloc (.cells zeroBen 76) = boxO w (benchV g gb x A1 A2 c1 c2 Ap cp) (bopCells (o, v))) := show _ = _ from rfl
  generalize boxO w (benchV g gb x A1 A2 c1 c2 Ap cp) (bopCells (o, v)) = W at *
  have HA : Hid (AggOf Try.prog 76 14) := agg_ben
  have HAR : Hid (AggOf Try.prog 57 10) := agg_ref
  obtain ⟨m1, m2, m3⟩ := kindM_facts o.kind
  rw [hk] at m3
  have o0 : W.cell? ⟨w.heap.size + 1, 0, none⟩ = some (.int .i64 o.kind) := e1.cell 0
  have hGL : gb < w.heap.size ∧ g < w.heap.size ∧ b1 < w.heap.size ∧ b2 < w.heap.size := ⟨Blk.lt hb, hd.dev.lt, hd.bits.lt, hd.worn.lt⟩
  obtain ⟨l1, l2, l3, l4⟩ := hGL
  have hsz : w.heap.size + 2 < W.heap.size := e2.lt
  have HXW : Hid (BenAt base (F0 ++ [w.heap.size, w.heap.size + 1, w.heap.size + 1 + 1]) W A1 A2 c1 c2 Ap x) := (hx.widen (G := [w.heap.size, w.heap.size + 1, w.heap.size + 1 + 1]) (fun y hy => by simp only [List.mem_cons, List.not_mem_nil, or_false] at hy; omega)).keep0 k1
  have HFW : Hid (∀ y ∈ F0 ++ [w.heap.size, w.heap.size + 1, w.heap.size + 1 + 1], y < W.heap.size) := fun y hy => by
    rcases List.mem_append.1 hy with hy | hy
    · have := hF0 y hy
      omega
    · simp only [List.mem_cons, List.not_mem_nil, or_false] at hy
      omega
  have HSUB := Lib.hid hsub
  have HE0 := Lib.hid e0
  have HE1 := Lib.hid e1
  have HE2 := Lib.hid e2
  have HK1 := Lib.hid k1
  have HD := Lib.hid hd
  have HBK := Lib.hid hb
  have HS := Lib.hid hs
  have HBG := Lib.hid hB
  have HO := Lib.hid ho
  have HOV := Lib.hid hov
  have _HOLB := Lib.hid (And.intro hol hbase)
  have hone : oneD x o = (putD x o.l).1 := by unfold oneD; rw [if_neg (by rw [hk]; decide), if_neg (by rw [hk]; decide), if_neg (by rw [hk]; decide), if_neg (by rw [hk]; decide), if_neg (by rw [hk]; decide), if_neg (by rw [hk]; decide)]
  have HSAM := same_put hs hB ho.lt
  have HDOC : Hid (∀ W', Keep [] W W' → Calls Try.prog 85 #[.agg (benchV g gb x A1 A2 c1 c2 Ap cp).toArray, .slice v.a o.l.length v.c] W' (RetBen base (F0 ++ [w.heap.size, w.heap.size + 1, w.heap.size + 1 + 1]) W' g gb (putD x o.l).1 (putD x o.l).2)) := fun W' kk => by
    have hz := kk.size
    have hf : ∀ y ∈ F0 ++ [w.heap.size, w.heap.size + 1, w.heap.size + 1 + 1], y < W'.heap.size := fun y hy => by have := HFW.out y hy; omega
    have hlen := HS.out.len
    have hrm := HBG.out.room
    exact put_any08 base _ g gb x A1 A2 c1 c2 Ap cp v.a o.l.length v.c o.l W' (HXW.out.keep0 kk) HBG.out.ok HBG.out.three hf (by omega) (by omega) (by omega) rfl HO.out.lt ((HO.out.words.keep0 HK1.out).keep0 kk)
  have HPRG : Hid (∀ W', Keep [w.heap.size] W W' → Calls Try.prog 70 #[.pointer (some ⟨gb, 0, none⟩), .slice v.a o.l.length v.c] W' fun e w' => e = .returned (.int .i64 (putD x o.l).2) ∧ DevAt w' g b1 b2 (putD x o.l).1.d ∧ BankAt w' gb g (putB x.d b o.l).2.1 ∧ Keep [gb, g, b1, b2] W' w') := fun W' kk => by
    have hni : ∀ y ∈ [gb, g, b1, b2], y ∉ [w.heap.size] := fun y hy => by simp only [List.mem_cons, List.not_mem_nil, or_false] at hy ⊢; omega
    have hdW := (HD.out.keep0 HK1.out).keep kk (hni _ (by simp)) (hni _ (by simp)) (hni _ (by simp))
    have hbW : BankAt W' gb g b := Blk.keep (HBK.out.keep0 HK1.out) kk (hni _ (by simp))
    refine (bput_any gb g b1 b2 x.d b W' hbW hdW HBG.out.ok (HS.out.bk HBG.out) (by have := HS.out.pn2; omega) HS.out.s2 (by have := HS.out.m2; omega) v.a o.l.length v.c o.l rfl HO.out.lt (by
      by_cases h0 : 0 < o.l.length
      · refine Reads.keep (HO.out.words.keep0 HK1.out) kk (fun ad ha hm => ?_)
        obtain ⟨b', o', e', hb', _⟩ := HO.out.words.addr h0
        rw [e'] at ha
        cases ha
        simp only [List.mem_cons, List.not_mem_nil, or_false] at hm
        omega
      · exact ⟨HO.out.words.1, fun h1 => absurd h1 h0⟩) (by
      intro h0 ad ha
      have := HOV.out h0 ad ha
      simp only [List.mem_cons, List.not_mem_nil, or_false, not_or] at this
      exact this) (by omega)).mono ?_
    rintro e w' ⟨rfl, hl⟩
    obtain ⟨s1, s2, s3, s4⟩ := HSAM
    have q1 := hl.dev
    rw [s1] at q1
    exact ⟨by rw [s2], q1, hl.bank, hl.keep⟩
  have HSB : Hid (SameB (putD x o.l).1 (putB x.d b o.l).2.1 ∧ BigB (putD x o.l).1.d) := ⟨HSAM.2.2.1, HSAM.2.2.2⟩
  rw [hone]
  clear HSAM hone e0 e1 e2 k1 hd hb hx hs hB ho hov hsub hF0
  generalize hsb : (putB x.d b o.l).2.1 = b' at *
  obtain ⟨x', E, hxe⟩ : ∃ x' E, (putD x o.l) = (x', E) := ⟨_, _, rfl⟩
  rw [hxe] at HDOC HPRG HSB ⊢
  dsimp only at HDOC HPRG HSB ⊢
  clear hxe hsb
  have o3 : W.cell? ⟨w.heap.size + 1, 3, none⟩ = some (.slice v.a o.l.length v.c) := HE1.out.cell 3
  go_enter Try.func36, Try.ntmps36
  go_upto_region 1 with fail
  rw [HW.out]
  clear HW
  go_wp2_with (refine stop_load 76 (.tmp 2) rfl ?_)
  constructor
  refine wpList_load_agg rfl 76 (.tmp 2) rfl rfl (cs := benchV g gb x A1 A2 c1 c2 Ap cp) HA.out HE0.out.cellsAt ?_
  go_wp2_with fail
  refine (HDOC.out W (Keep.refl _ _)).mono ?_
  rintro e w3 ⟨A1', A2', c1', c2', Ap', cp', rfl, hx3, k3⟩
  go_wp2_with (refine stop_store 76 (.tmp 2) (.tmp 19) rfl ?_)
  constructor
  refine wpList_store_all rfl 76 (.tmp 2) (.tmp 19) rfl rfl rfl (t := 76) (cs := (benchV g gb x A1 A2 c1 c2 Ap cp).toArray) (vs := benchV g gb x' A1' A2' c1' c2' Ap' cp') HA.out.2 (HE0.out.keep0 k3) (benchV_one _ _ _ _ _ _ _ _ _) rfl ?_
  intro w4 d4 k4
  have K4 : Keep [w.heap.size] W w4 := Keep.trans (k3.mono (G := [w.heap.size]) (by simp)) k4 (fun y hy _ => hy)
  have pg : w4.cell? ⟨w.heap.size, 1, none⟩ = some (.pointer (some ⟨gb, 0, none⟩)) := (d4.cell 1).trans (bench_gb _ _ _ _ _ _ _ _ _)
  have po : w4.cell? ⟨w.heap.size + 1, 3, none⟩ = some (.slice v.a o.l.length v.c) := (HE1.out.keep K4 (by simp)).cell 3
  have pk : w4.cell? ⟨w.heap.size + 1, 0, none⟩ = some (.int .i64 o.kind) := (HE1.out.keep K4 (by simp)).cell 0
  have HX4 := Lib.hid (hx3.keep (k4.mono (by simp)))
  have HD4 := Lib.hid d4
  have HE24 := Lib.hid (HE2.out.keep K4 (by simp only [List.mem_cons, List.not_mem_nil, or_false]; omega))
  have HK4 := Lib.hid K4
  have HPC := Lib.hid (HPRG.out w4 K4)
  clear hx3 k3 d4 k4 K4 HDOC HPRG HE0 HE1 HE2 o0
  go_wp2_with fail
  refine HPC.out.mono ?_
  rintro e w5 ⟨rfl, hd5, hb5, k5⟩
  have HD5 := Lib.hid hd5
  have HB5 := Lib.hid hb5
  have HX5 := Lib.hid (HX4.out.keep (k5.mono (fun y hy _ => List.mem_append_left _ (HSUB.out y hy))))
  have HDD5 := Lib.hid (HD4.out.keep k5 (by simp only [List.mem_cons, List.not_mem_nil, or_false]; omega))
  have HE25 := Lib.hid (HE24.out.keep k5 (by simp only [List.mem_cons, List.not_mem_nil, or_false]; omega))
  have HK5 : Hid (Keep [gb, g, b1, b2] w w5) := Keep.trans ((HK1.out.trans HK4.out (fun y hy hl => by simp only [List.mem_cons, List.not_mem_nil, or_false] at hy; omega)).mono (G := [gb, g, b1, b2]) (by simp)) k5 (fun y hy _ => hy)
  clear hd5 hb5 k5 HD4 HX4 HE24 HPC HK4 pg po pk
  go_upto_region 25 with fail
  go_wp2_with (refine stop_load 76 (.tmp 2) rfl ?_)
  constructor
  refine wpList_load_agg rfl 76 (.tmp 2) rfl rfl (cs := benchV g gb x' A1' A2' c1' c2' Ap' cp') HA.out HDD5.out.cellsAt ?_
  go_wp2_with (refine wpList_store_all rfl 76 (.tmp 4) (.tmp 99) rfl rfl rfl (t := 76) (cs := zeroBen) (vs := benchV g gb x' A1' A2' c1' c2' Ap' cp') HA.out.2 ?_ (benchV_one _ _ _ _ _ _ _ _ _) rfl ?_; exact HE25.out; intro w6 e6 k6)
  refine bodyPost_ret (results_blk_tmp rfl _ rfl rfl e6 HA.out) rfl ?_
  obtain ⟨s1, s2⟩ := HSB.out
  have hni : ∀ y ∈ [gb, g, b1, b2], y ∉ [w.heap.size + 1 + 1] := fun y hy => by simp only [List.mem_cons, List.not_mem_nil, or_false] at hy ⊢; omega
  refine ⟨b', A1', A2', c1', c2', Ap', cp', rfl, HD5.out.keep k6 (hni _ (by simp)) (hni _ (by simp)) (hni _ (by simp)), Blk.keep HB5.out k6 (hni _ (by simp)), (HX5.out.keep (k6.mono (by simp))).narrow, s1, s2, HK5.out.trans k6 (fun y hy hl => by simp only [List.mem_cons, List.not_mem_nil, or_false] at hy; omega)⟩

set_option maxRecDepth 100000 in
set_option maxHeartbeats 4000000 in
theorem one_put2 (hk : kindM o.kind = 2) : Calls Try.prog 36 #[.agg (benchV g gb x A1 A2 c1 c2 Ap cp).toArray, .agg (bopCells (o, v)).toArray] w (RetOne base F0 w g gb b1 b2 (oneD x o)) := by
  obtain ⟨e0, e1, e2, k1⟩ := boxO_facts w (benchV g gb x A1 A2 c1 c2 Ap cp) (bopCells (o, v))
  have HW : Hid (((w.alloc (.cells (benchV g gb x A1 A2 c1 c2 Ap cp).toArray 76)).alloc (.cells (bopCells (o, v)).toArray 80)).alloc (.cells zeroBen 76) = boxO w (benchV g gb x A1 A2 c1 c2 Ap cp) (bopCells (o, v))) := show _ = _ from rfl
  generalize boxO w (benchV g gb x A1 A2 c1 c2 Ap cp) (bopCells (o, v)) = W at *
  have HA : Hid (AggOf Try.prog 76 14) := agg_ben
  have HAR : Hid (AggOf Try.prog 57 10) := agg_ref
  obtain ⟨m1, m2, m3⟩ := kindM_facts o.kind
  rw [hk] at m3
  have o0 : W.cell? ⟨w.heap.size + 1, 0, none⟩ = some (.int .i64 o.kind) := e1.cell 0
  have hGL : gb < w.heap.size ∧ g < w.heap.size ∧ b1 < w.heap.size ∧ b2 < w.heap.size := ⟨Blk.lt hb, hd.dev.lt, hd.bits.lt, hd.worn.lt⟩
  obtain ⟨l1, l2, l3, l4⟩ := hGL
  have hsz : w.heap.size + 2 < W.heap.size := e2.lt
  have HXW : Hid (BenAt base (F0 ++ [w.heap.size, w.heap.size + 1, w.heap.size + 1 + 1]) W A1 A2 c1 c2 Ap x) := (hx.widen (G := [w.heap.size, w.heap.size + 1, w.heap.size + 1 + 1]) (fun y hy => by simp only [List.mem_cons, List.not_mem_nil, or_false] at hy; omega)).keep0 k1
  have HFW : Hid (∀ y ∈ F0 ++ [w.heap.size, w.heap.size + 1, w.heap.size + 1 + 1], y < W.heap.size) := fun y hy => by
    rcases List.mem_append.1 hy with hy | hy
    · have := hF0 y hy
      omega
    · simp only [List.mem_cons, List.not_mem_nil, or_false] at hy
      omega
  have HSUB := Lib.hid hsub
  have HE0 := Lib.hid e0
  have HE1 := Lib.hid e1
  have HE2 := Lib.hid e2
  have HK1 := Lib.hid k1
  have HD := Lib.hid hd
  have HBK := Lib.hid hb
  have HS := Lib.hid hs
  have HBG := Lib.hid hB
  have HO := Lib.hid ho
  have HOV := Lib.hid hov
  have _HOLB := Lib.hid (And.intro hol hbase)
  have hone : oneD x o = (putD x o.l).1 := by unfold oneD; rw [if_neg (by rw [hk]; decide), if_neg (by rw [hk]; decide), if_neg (by rw [hk]; decide), if_neg (by rw [hk]; decide), if_neg (by rw [hk]; decide), if_neg (by rw [hk]; decide)]
  have HSAM := same_put hs hB ho.lt
  have HDOC : Hid (∀ W', Keep [] W W' → Calls Try.prog 85 #[.agg (benchV g gb x A1 A2 c1 c2 Ap cp).toArray, .slice v.a o.l.length v.c] W' (RetBen base (F0 ++ [w.heap.size, w.heap.size + 1, w.heap.size + 1 + 1]) W' g gb (putD x o.l).1 (putD x o.l).2)) := fun W' kk => by
    have hz := kk.size
    have hf : ∀ y ∈ F0 ++ [w.heap.size, w.heap.size + 1, w.heap.size + 1 + 1], y < W'.heap.size := fun y hy => by have := HFW.out y hy; omega
    have hlen := HS.out.len
    have hrm := HBG.out.room
    exact put_any08 base _ g gb x A1 A2 c1 c2 Ap cp v.a o.l.length v.c o.l W' (HXW.out.keep0 kk) HBG.out.ok HBG.out.three hf (by omega) (by omega) (by omega) rfl HO.out.lt ((HO.out.words.keep0 HK1.out).keep0 kk)
  have HPRG : Hid (∀ W', Keep [w.heap.size] W W' → Calls Try.prog 70 #[.pointer (some ⟨gb, 0, none⟩), .slice v.a o.l.length v.c] W' fun e w' => e = .returned (.int .i64 (putD x o.l).2) ∧ DevAt w' g b1 b2 (putD x o.l).1.d ∧ BankAt w' gb g (putB x.d b o.l).2.1 ∧ Keep [gb, g, b1, b2] W' w') := fun W' kk => by
    have hni : ∀ y ∈ [gb, g, b1, b2], y ∉ [w.heap.size] := fun y hy => by simp only [List.mem_cons, List.not_mem_nil, or_false] at hy ⊢; omega
    have hdW := (HD.out.keep0 HK1.out).keep kk (hni _ (by simp)) (hni _ (by simp)) (hni _ (by simp))
    have hbW : BankAt W' gb g b := Blk.keep (HBK.out.keep0 HK1.out) kk (hni _ (by simp))
    refine (bput_any gb g b1 b2 x.d b W' hbW hdW HBG.out.ok (HS.out.bk HBG.out) (by have := HS.out.pn2; omega) HS.out.s2 (by have := HS.out.m2; omega) v.a o.l.length v.c o.l rfl HO.out.lt (by
      by_cases h0 : 0 < o.l.length
      · refine Reads.keep (HO.out.words.keep0 HK1.out) kk (fun ad ha hm => ?_)
        obtain ⟨b', o', e', hb', _⟩ := HO.out.words.addr h0
        rw [e'] at ha
        cases ha
        simp only [List.mem_cons, List.not_mem_nil, or_false] at hm
        omega
      · exact ⟨HO.out.words.1, fun h1 => absurd h1 h0⟩) (by
      intro h0 ad ha
      have := HOV.out h0 ad ha
      simp only [List.mem_cons, List.not_mem_nil, or_false, not_or] at this
      exact this) (by omega)).mono ?_
    rintro e w' ⟨rfl, hl⟩
    obtain ⟨s1, s2, s3, s4⟩ := HSAM
    have q1 := hl.dev
    rw [s1] at q1
    exact ⟨by rw [s2], q1, hl.bank, hl.keep⟩
  have HSB : Hid (SameB (putD x o.l).1 (putB x.d b o.l).2.1 ∧ BigB (putD x o.l).1.d) := ⟨HSAM.2.2.1, HSAM.2.2.2⟩
  rw [hone]
  clear HSAM hone e0 e1 e2 k1 hd hb hx hs hB ho hov hsub hF0
  generalize hsb : (putB x.d b o.l).2.1 = b' at *
  obtain ⟨x', E, hxe⟩ : ∃ x' E, (putD x o.l) = (x', E) := ⟨_, _, rfl⟩
  rw [hxe] at HDOC HPRG HSB ⊢
  dsimp only at HDOC HPRG HSB ⊢
  clear hxe hsb
  have o3 : W.cell? ⟨w.heap.size + 1, 3, none⟩ = some (.slice v.a o.l.length v.c) := HE1.out.cell 3
  go_enter Try.func36, Try.ntmps36
  go_upto_region 1 with fail
  rw [HW.out]
  clear HW
  go_wp2_with (refine stop_load 76 (.tmp 2) rfl ?_)
  constructor
  refine wpList_load_agg rfl 76 (.tmp 2) rfl rfl (cs := benchV g gb x A1 A2 c1 c2 Ap cp) HA.out HE0.out.cellsAt ?_
  go_wp2_with fail
  refine (HDOC.out W (Keep.refl _ _)).mono ?_
  rintro e w3 ⟨A1', A2', c1', c2', Ap', cp', rfl, hx3, k3⟩
  go_wp2_with (refine stop_store 76 (.tmp 2) (.tmp 19) rfl ?_)
  constructor
  refine wpList_store_all rfl 76 (.tmp 2) (.tmp 19) rfl rfl rfl (t := 76) (cs := (benchV g gb x A1 A2 c1 c2 Ap cp).toArray) (vs := benchV g gb x' A1' A2' c1' c2' Ap' cp') HA.out.2 (HE0.out.keep0 k3) (benchV_one _ _ _ _ _ _ _ _ _) rfl ?_
  intro w4 d4 k4
  have K4 : Keep [w.heap.size] W w4 := Keep.trans (k3.mono (G := [w.heap.size]) (by simp)) k4 (fun y hy _ => hy)
  have pg : w4.cell? ⟨w.heap.size, 1, none⟩ = some (.pointer (some ⟨gb, 0, none⟩)) := (d4.cell 1).trans (bench_gb _ _ _ _ _ _ _ _ _)
  have po : w4.cell? ⟨w.heap.size + 1, 3, none⟩ = some (.slice v.a o.l.length v.c) := (HE1.out.keep K4 (by simp)).cell 3
  have pk : w4.cell? ⟨w.heap.size + 1, 0, none⟩ = some (.int .i64 o.kind) := (HE1.out.keep K4 (by simp)).cell 0
  have HX4 := Lib.hid (hx3.keep (k4.mono (by simp)))
  have HD4 := Lib.hid d4
  have HE24 := Lib.hid (HE2.out.keep K4 (by simp only [List.mem_cons, List.not_mem_nil, or_false]; omega))
  have HK4 := Lib.hid K4
  have HPC := Lib.hid (HPRG.out w4 K4)
  clear hx3 k3 d4 k4 K4 HDOC HPRG HE0 HE1 HE2 o0
  go_wp2_with fail
  refine HPC.out.mono ?_
  rintro e w5 ⟨rfl, hd5, hb5, k5⟩
  have HD5 := Lib.hid hd5
  have HB5 := Lib.hid hb5
  have HX5 := Lib.hid (HX4.out.keep (k5.mono (fun y hy _ => List.mem_append_left _ (HSUB.out y hy))))
  have HDD5 := Lib.hid (HD4.out.keep k5 (by simp only [List.mem_cons, List.not_mem_nil, or_false]; omega))
  have HE25 := Lib.hid (HE24.out.keep k5 (by simp only [List.mem_cons, List.not_mem_nil, or_false]; omega))
  have HK5 : Hid (Keep [gb, g, b1, b2] w w5) := Keep.trans ((HK1.out.trans HK4.out (fun y hy hl => by simp only [List.mem_cons, List.not_mem_nil, or_false] at hy; omega)).mono (G := [gb, g, b1, b2]) (by simp)) k5 (fun y hy _ => hy)
  clear hd5 hb5 k5 HD4 HX4 HE24 HPC HK4 pg po pk
  go_upto_region 25 with fail
  go_wp2_with (refine stop_load 76 (.tmp 2) rfl ?_)
  constructor
  refine wpList_load_agg rfl 76 (.tmp 2) rfl rfl (cs := benchV g gb x' A1' A2' c1' c2' Ap' cp') HA.out HDD5.out.cellsAt ?_
  go_wp2_with (refine wpList_store_all rfl 76 (.tmp 4) (.tmp 99) rfl rfl rfl (t := 76) (cs := zeroBen) (vs := benchV g gb x' A1' A2' c1' c2' Ap' cp') HA.out.2 ?_ (benchV_one _ _ _ _ _ _ _ _ _) rfl ?_; exact HE25.out; intro w6 e6 k6)
  refine bodyPost_ret (results_blk_tmp rfl _ rfl rfl e6 HA.out) rfl ?_
  obtain ⟨s1, s2⟩ := HSB.out
  have hni : ∀ y ∈ [gb, g, b1, b2], y ∉ [w.heap.size + 1 + 1] := fun y hy => by simp only [List.mem_cons, List.not_mem_nil, or_false] at hy ⊢; omega
  refine ⟨b', A1', A2', c1', c2', Ap', cp', rfl, HD5.out.keep k6 (hni _ (by simp)) (hni _ (by simp)) (hni _ (by simp)), Blk.keep HB5.out k6 (hni _ (by simp)), (HX5.out.keep (k6.mono (by simp))).narrow, s1, s2, HK5.out.trans k6 (fun y hy hl => by simp only [List.mem_cons, List.not_mem_nil, or_false] at hy; omega)⟩

set_option maxRecDepth 100000 in
set_option maxHeartbeats 4000000 in
theorem one_arm (hk : kindM o.kind = 6) : Calls Try.prog 36 #[.agg (benchV g gb x A1 A2 c1 c2 Ap cp).toArray, .agg (bopCells (o, v)).toArray] w (RetOne base F0 w g gb b1 b2 (oneD x o)) := by
  obtain ⟨e0, e1, e2, k1⟩ := boxO_facts w (benchV g gb x A1 A2 c1 c2 Ap cp) (bopCells (o, v))
  have HW : Hid (((w.alloc (.cells (benchV g gb x A1 A2 c1 c2 Ap cp).toArray 76)).alloc (.cells (bopCells (o, v)).toArray 80)).alloc (.cells zeroBen 76) = boxO w (benchV g gb x A1 A2 c1 c2 Ap cp) (bopCells (o, v))) := show _ = _ from rfl
  generalize boxO w (benchV g gb x A1 A2 c1 c2 Ap cp) (bopCells (o, v)) = W at *
  have HA : Hid (AggOf Try.prog 76 14) := agg_ben
  have HAR : Hid (AggOf Try.prog 57 10) := agg_ref
  obtain ⟨m1, m2, m3⟩ := kindM_facts o.kind
  rw [hk] at m3
  have o0 : W.cell? ⟨w.heap.size + 1, 0, none⟩ = some (.int .i64 o.kind) := e1.cell 0
  have hGL : gb < w.heap.size ∧ g < w.heap.size ∧ b1 < w.heap.size ∧ b2 < w.heap.size := ⟨Blk.lt hb, hd.dev.lt, hd.bits.lt, hd.worn.lt⟩
  obtain ⟨l1, l2, l3, l4⟩ := hGL
  have hsz : w.heap.size + 2 < W.heap.size := e2.lt
  have HXW : Hid (BenAt base (F0 ++ [w.heap.size, w.heap.size + 1, w.heap.size + 1 + 1]) W A1 A2 c1 c2 Ap x) := (hx.widen (G := [w.heap.size, w.heap.size + 1, w.heap.size + 1 + 1]) (fun y hy => by simp only [List.mem_cons, List.not_mem_nil, or_false] at hy; omega)).keep0 k1
  have HFW : Hid (∀ y ∈ F0 ++ [w.heap.size, w.heap.size + 1, w.heap.size + 1 + 1], y < W.heap.size) := fun y hy => by
    rcases List.mem_append.1 hy with hy | hy
    · have := hF0 y hy
      omega
    · simp only [List.mem_cons, List.not_mem_nil, or_false] at hy
      omega
  have HSUB := Lib.hid hsub
  have HE0 := Lib.hid e0
  have HE1 := Lib.hid e1
  have HE2 := Lib.hid e2
  have HK1 := Lib.hid k1
  have HD := Lib.hid hd
  have HBK := Lib.hid hb
  have HS := Lib.hid hs
  have HBG := Lib.hid hB
  have HO := Lib.hid ho
  have HOV := Lib.hid hov
  have _HOLB := Lib.hid (And.intro hol hbase)
  have hone : oneD x o = { x with d := armS x.d o.n o.s } := by unfold oneD; rw [if_neg (by rw [hk]; decide), if_neg (by rw [hk]; decide), if_neg (by rw [hk]; decide), if_neg (by rw [hk]; decide), if_pos hk]
  rw [hone]
  have HSB : Hid (SameB { x with d := armS x.d o.n o.s } b ∧ BigB (armS x.d o.n o.s)) := ⟨hs.dev ⟨rfl, rfl, rfl⟩, hB.dims ⟨rfl, rfl, rfl⟩ (armS_ok hB.ok _ _ ho.s32 ho.n64)⟩
  have hfni : ∀ y ∈ [gb, g, b1, b2], y ≠ w.heap.size ∧ y ≠ w.heap.size + 1 ∧ y ≠ w.heap.size + 1 + 1 := fun y hy => by simp only [List.mem_cons, List.not_mem_nil, or_false] at hy; omega
  have hne : gb ≠ g ∧ gb ≠ b1 ∧ gb ≠ b2 := bank_ne hd hb
  clear hone e0 e1 e2 k1 hd hb hx hs hB ho hov hsub hF0
  have o1 : W.cell? ⟨w.heap.size + 1, 1, none⟩ = some (.int .i64 o.n) := HE1.out.cell 1
  have o2 : W.cell? ⟨w.heap.size + 1, 2, none⟩ = some (.int .u32 (o.s : Int)) := HE1.out.cell 2
  have pg : W.cell? ⟨w.heap.size, 0, none⟩ = some (.pointer (some ⟨g, 0, none⟩)) := (HE0.out.cell 0).trans (bench_g _ _ _ _ _ _ _ _ _)
  have HFC := Lib.hid (farm_any g b1 b2 x.d o.n o.s W (HD.out.keep0 HK1.out))
  have HRC := fun W => Lib.hid (rarm_any A1 A2 c1 c2 x.d o.n o.s W)
  go_enter Try.func36, Try.ntmps36
  go_upto_region 1 with fail
  rw [HW.out]
  clear HW
  go_wp2_with fail
  refine HFC.out.mono ?_
  rintro e W2 ⟨rfl, hd2, k2⟩
  have HE02 := Lib.hid (HE0.out.keep k2 (by simp only [List.mem_cons, List.not_mem_nil, or_false]; omega))
  have p1 : W2.cell? ⟨w.heap.size + 1, 1, none⟩ = some (.int .i64 o.n) := (HE1.out.keep k2 (by simp only [List.mem_cons, List.not_mem_nil, or_false]; omega)).cell 1
  have p2 : W2.cell? ⟨w.heap.size + 1, 2, none⟩ = some (.int .u32 (o.s : Int)) := (HE1.out.keep k2 (by simp only [List.mem_cons, List.not_mem_nil, or_false]; omega)).cell 2
  have HE22 := Lib.hid (HE2.out.keep k2 (by simp only [List.mem_cons, List.not_mem_nil, or_false]; omega))
  have HD2 := Lib.hid hd2
  have HX2 := Lib.hid (HXW.out.keep (k2.mono (fun y hy _ => List.mem_append_left _ (HSUB.out y (by simp only [List.mem_cons, List.not_mem_nil, or_false] at hy ⊢; simp [hy])))))
  have HB2 : Hid (BankAt W2 gb g b) := Blk.keep (HBK.out.keep0 HK1.out) k2 (by simp only [List.mem_cons, List.not_mem_nil, or_false]; exact hne.1)
  have HK2 : Hid (Keep [gb, g, b1, b2] w W2) := Keep.trans (HK1.out.mono (G := [gb, g, b1, b2]) (by simp)) k2 (fun y hy _ => by simp only [List.mem_cons, List.not_mem_nil, or_false] at hy ⊢; simp [hy])
  clear hd2 k2 o0 o1 o2 pg HFC HD HE0 HE1 HE2 HK1 HBK HXW
  go_wp2_with (refine stop_load 57 (.tmp 84) rfl ?_)
  constructor
  refine wpList_load_agg rfl 57 (.tmp 84) rfl rfl (f := 2) (cs := refV x.d A1 A2 c1 c2) HAR.out (bench_ref HE02.out) ?_
  go_wp2_with fail
  refine (HRC W2).out.mono ?_
  rintro e W3 ⟨rfl, k3⟩
  go_wp2_with (refine stop_store 57 (.tmp 91) (.tmp 90) rfl ?_)
  constructor
  refine wpList_store_agg rfl 57 (.tmp 91) (.tmp 90) rfl rfl rfl (f := 2) (vs := refV (armS x.d o.n o.s) A1 A2 c1 c2) HAR.out.2 (HE02.out.keep0 k3) (refV_one _ _ _ _ _) (by show 2 + 10 ≤ 14; decide) ?_
  intro w5 d5 k5
  rw [bench_put_ref] at d5
  have hxx : BenAt base (F0 ++ [w.heap.size, w.heap.size + 1, w.heap.size + 1 + 1]) W2 A1 A2 c1 c2 Ap { x with d := armS x.d o.n o.s } := ⟨⟨HX2.out.rows.bits, HX2.out.rows.worn, HX2.out.rows.off1, HX2.out.rows.off2⟩, HX2.out.put, HX2.out.off⟩
  generalize hx' : ({ x with d := armS x.d o.n o.s } : BenS) = x' at *
  have hxd : armS x.d o.n o.s = x'.d := by rw [← hx']
  rw [hxd] at HD2 HSB
  have HDD5 := Lib.hid d5
  have HE25 := Lib.hid ((HE22.out.keep0 k3).keep k5 (by simp only [List.mem_cons, List.not_mem_nil, or_false]; omega))
  have HD5 := Lib.hid ((HD2.out.keep0 k3).keep k5 (by simp only [List.mem_cons, List.not_mem_nil, or_false]; omega) (by simp only [List.mem_cons, List.not_mem_nil, or_false]; omega) (by simp only [List.mem_cons, List.not_mem_nil, or_false]; omega))
  have HB5 : Hid (BankAt w5 gb g b) := Blk.keep (HB2.out.keep0 k3) k5 (by simp only [List.mem_cons, List.not_mem_nil, or_false]; omega)
  have HX5 := Lib.hid ((hxx.keep0 k3).keep (k5.mono (by simp)))
  have HK5 : Hid (Keep [gb, g, b1, b2] w w5) := (HK2.out.then k3).trans k5 (fun y hy hl => by simp only [List.mem_cons, List.not_mem_nil, or_false] at hy; omega)
  clear d5 k5 k3 hxx HX2 HD2 HB2 HK2 HE02 HE22 p1 p2 HRC hx' hxd hfni hne
  go_upto_region 25 with fail
  go_wp2_with (refine stop_load 76 (.tmp 2) rfl ?_)
  constructor
  refine wpList_load_agg rfl 76 (.tmp 2) rfl rfl (cs := benchV g gb x' A1 A2 c1 c2 Ap cp) HA.out HDD5.out.cellsAt ?_
  go_wp2_with (refine wpList_store_all rfl 76 (.tmp 4) (.tmp 99) rfl rfl rfl (t := 76) (cs := zeroBen) (vs := benchV g gb x' A1 A2 c1 c2 Ap cp) HA.out.2 ?_ (benchV_one _ _ _ _ _ _ _ _ _) rfl ?_; exact HE25.out; intro w6 e6 k6)
  refine bodyPost_ret (results_blk_tmp rfl _ rfl rfl e6 HA.out) rfl ?_
  obtain ⟨s1, s2⟩ := HSB.out
  have hni : ∀ y ∈ [gb, g, b1, b2], y ∉ [w.heap.size + 1 + 1] := fun y hy => by simp only [List.mem_cons, List.not_mem_nil, or_false] at hy ⊢; omega
  refine ⟨b, A1, A2, c1, c2, Ap, cp, rfl, HD5.out.keep k6 (hni _ (by simp)) (hni _ (by simp)) (hni _ (by simp)), Blk.keep HB5.out k6 (hni _ (by simp)), (HX5.out.keep (k6.mono (by simp))).narrow, s1, s2, HK5.out.trans k6 (fun y hy hl => by simp only [List.mem_cons, List.not_mem_nil, or_false] at hy; omega)⟩

set_option maxRecDepth 100000 in
set_option maxHeartbeats 4000000 in
theorem one_power (hk : kindM o.kind = 7) : Calls Try.prog 36 #[.agg (benchV g gb x A1 A2 c1 c2 Ap cp).toArray, .agg (bopCells (o, v)).toArray] w (RetOne base F0 w g gb b1 b2 (oneD x o)) := by
  obtain ⟨e0, e1, e2, k1⟩ := boxO_facts w (benchV g gb x A1 A2 c1 c2 Ap cp) (bopCells (o, v))
  have HW : Hid (((w.alloc (.cells (benchV g gb x A1 A2 c1 c2 Ap cp).toArray 76)).alloc (.cells (bopCells (o, v)).toArray 80)).alloc (.cells zeroBen 76) = boxO w (benchV g gb x A1 A2 c1 c2 Ap cp) (bopCells (o, v))) := show _ = _ from rfl
  generalize boxO w (benchV g gb x A1 A2 c1 c2 Ap cp) (bopCells (o, v)) = W at *
  have HA : Hid (AggOf Try.prog 76 14) := agg_ben
  have HAR : Hid (AggOf Try.prog 57 10) := agg_ref
  obtain ⟨m1, m2, m3⟩ := kindM_facts o.kind
  rw [hk] at m3
  have o0 : W.cell? ⟨w.heap.size + 1, 0, none⟩ = some (.int .i64 o.kind) := e1.cell 0
  have hGL : gb < w.heap.size ∧ g < w.heap.size ∧ b1 < w.heap.size ∧ b2 < w.heap.size := ⟨Blk.lt hb, hd.dev.lt, hd.bits.lt, hd.worn.lt⟩
  obtain ⟨l1, l2, l3, l4⟩ := hGL
  have hsz : w.heap.size + 2 < W.heap.size := e2.lt
  have HXW : Hid (BenAt base (F0 ++ [w.heap.size, w.heap.size + 1, w.heap.size + 1 + 1]) W A1 A2 c1 c2 Ap x) := (hx.widen (G := [w.heap.size, w.heap.size + 1, w.heap.size + 1 + 1]) (fun y hy => by simp only [List.mem_cons, List.not_mem_nil, or_false] at hy; omega)).keep0 k1
  have HFW : Hid (∀ y ∈ F0 ++ [w.heap.size, w.heap.size + 1, w.heap.size + 1 + 1], y < W.heap.size) := fun y hy => by
    rcases List.mem_append.1 hy with hy | hy
    · have := hF0 y hy
      omega
    · simp only [List.mem_cons, List.not_mem_nil, or_false] at hy
      omega
  have HSUB := Lib.hid hsub
  have HE0 := Lib.hid e0
  have HE1 := Lib.hid e1
  have HE2 := Lib.hid e2
  have HK1 := Lib.hid k1
  have HD := Lib.hid hd
  have HBK := Lib.hid hb
  have HS := Lib.hid hs
  have HBG := Lib.hid hB
  have HO := Lib.hid ho
  have HOV := Lib.hid hov
  have _HOLB := Lib.hid (And.intro hol hbase)
  have hone : oneD x o = { x with d := powerS x.d true } := by unfold oneD; rw [if_neg (by rw [hk]; decide), if_neg (by rw [hk]; decide), if_neg (by rw [hk]; decide), if_neg (by rw [hk]; decide), if_neg (by rw [hk]; decide), if_pos hk]
  rw [hone]
  have HSB : Hid (SameB { x with d := powerS x.d true } b ∧ BigB (powerS x.d true)) := ⟨hs.dev ⟨rfl, rfl, rfl⟩, hB.dims ⟨rfl, rfl, rfl⟩ (powerS_ok hB.ok true)⟩
  have hfni : ∀ y ∈ [gb, g, b1, b2], y ≠ w.heap.size ∧ y ≠ w.heap.size + 1 ∧ y ≠ w.heap.size + 1 + 1 := fun y hy => by simp only [List.mem_cons, List.not_mem_nil, or_false] at hy; omega
  have hne : gb ≠ g ∧ gb ≠ b1 ∧ gb ≠ b2 := bank_ne hd hb
  clear hone e0 e1 e2 k1 hd hb hx hs hB ho hov hsub hF0
  have pg : W.cell? ⟨w.heap.size, 0, none⟩ = some (.pointer (some ⟨g, 0, none⟩)) := (HE0.out.cell 0).trans (bench_g _ _ _ _ _ _ _ _ _)
  have HFC := Lib.hid (fpower_any g b1 b2 x.d true W (HD.out.keep0 HK1.out))
  go_enter Try.func36, Try.ntmps36
  go_upto_region 1 with fail
  rw [HW.out]
  clear HW
  go_wp2_with fail
  refine HFC.out.mono ?_
  rintro e W2 ⟨rfl, hd2, k2⟩
  have he0 := HE0.out.keep k2 (by simp only [List.mem_cons, List.not_mem_nil, or_false]; omega)
  have gf := Blk.frozen he0 7
  have hgl := Blk.lt he0
  have p7 : W2.cell? ⟨w.heap.size, 7, none⟩ = some (.bool (!x.d.on)) := he0.cell 7
  have d5 := Blk.set_ he0 7 (.bool false)
  rw [bench_put_on] at d5
  have k5 := keep_set W2 w.heap.size 7 (.bool false)
  have HE22 := Lib.hid (HE2.out.keep k2 (by simp only [List.mem_cons, List.not_mem_nil, or_false]; omega))
  have hX2 := HXW.out.keep (k2.mono (fun y hy _ => List.mem_append_left _ (HSUB.out y (by simp only [List.mem_cons, List.not_mem_nil, or_false] at hy ⊢; simp [hy]))))
  have hxx : BenAt base (F0 ++ [w.heap.size, w.heap.size + 1, w.heap.size + 1 + 1]) W2 A1 A2 c1 c2 Ap { x with d := powerS x.d true } := ⟨⟨hX2.rows.bits, hX2.rows.worn, hX2.rows.off1, hX2.rows.off2⟩, hX2.put, hX2.off⟩
  have HB2 : Hid (BankAt W2 gb g b) := Blk.keep (HBK.out.keep0 HK1.out) k2 (by simp only [List.mem_cons, List.not_mem_nil, or_false]; exact hne.1)
  have HK2 : Hid (Keep [gb, g, b1, b2] w W2) := Keep.trans (HK1.out.mono (G := [gb, g, b1, b2]) (by simp)) k2 (fun y hy _ => by simp only [List.mem_cons, List.not_mem_nil, or_false] at hy ⊢; simp [hy])
  generalize hx' : ({ x with d := powerS x.d true } : BenS) = x' at *
  have hxd : powerS x.d true = x'.d := by rw [← hx']
  rw [hxd] at hd2 HSB
  have HDD5 := Lib.hid d5
  have HE25 := Lib.hid (HE22.out.keep k5 (by simp only [List.mem_cons, List.not_mem_nil, or_false]; omega))
  have HD5 := Lib.hid (hd2.keep k5 (by simp only [List.mem_cons, List.not_mem_nil, or_false]; omega) (by simp only [List.mem_cons, List.not_mem_nil, or_false]; omega) (by simp only [List.mem_cons, List.not_mem_nil, or_false]; omega))
  have HB5 : Hid (BankAt (W2.setCell ⟨w.heap.size, 7, none⟩ (.bool false)) gb g b) := Blk.keep HB2.out k5 (by simp only [List.mem_cons, List.not_mem_nil, or_false]; omega)
  have HX5 := Lib.hid (hxx.keep (k5.mono (by simp)))
  have HK5 : Hid (Keep [gb, g, b1, b2] w (W2.setCell ⟨w.heap.size, 7, none⟩ (.bool false))) := HK2.out.trans k5 (fun y hy hl => by simp only [List.mem_cons, List.not_mem_nil, or_false] at hy; omega)
  clear d5 k5 hxx hX2 hd2 HB2 HK2 k2 he0 HE22 o0 pg HFC HD HE0 HE1 HE2 HK1 HBK HXW hxd hx' hfni hne
  go_upto_region 25 with fail
  generalize W2.setCell ⟨w.heap.size, 7, none⟩ (.bool false) = w5 at *
  clear gf hgl p7
  go_upto_region 25 with fail
  go_wp2_with (refine stop_load 76 (.tmp 2) rfl ?_)
  constructor
  refine wpList_load_agg rfl 76 (.tmp 2) rfl rfl (cs := benchV g gb x' A1 A2 c1 c2 Ap cp) HA.out HDD5.out.cellsAt ?_
  go_wp2_with (refine wpList_store_all rfl 76 (.tmp 4) (.tmp 99) rfl rfl rfl (t := 76) (cs := zeroBen) (vs := benchV g gb x' A1 A2 c1 c2 Ap cp) HA.out.2 ?_ (benchV_one _ _ _ _ _ _ _ _ _) rfl ?_; exact HE25.out; intro w6 e6 k6)
  refine bodyPost_ret (results_blk_tmp rfl _ rfl rfl e6 HA.out) rfl ?_
  obtain ⟨s1, s2⟩ := HSB.out
  have hni : ∀ y ∈ [gb, g, b1, b2], y ∉ [w.heap.size + 1 + 1] := fun y hy => by simp only [List.mem_cons, List.not_mem_nil, or_false] at hy ⊢; omega
  refine ⟨b, A1, A2, c1, c2, Ap, cp, rfl, HD5.out.keep k6 (hni _ (by simp)) (hni _ (by simp)) (hni _ (by simp)), Blk.keep HB5.out k6 (hni _ (by simp)), (HX5.out.keep (k6.mono (by simp))).narrow, s1, s2, HK5.out.trans k6 (fun y hy hl => by simp only [List.mem_cons, List.not_mem_nil, or_false] at hy; omega)⟩

theorem one_any : Calls Try.prog 36 #[.agg (benchV g gb x A1 A2 c1 c2 Ap cp).toArray, .agg (bopCells (o, v)).toArray] w (RetOne base F0 w g gb b1 b2 (oneD x o)) := by
  obtain ⟨m1, m2, m3⟩ := kindM_facts o.kind
  have h8 : 0 ≤ kindM o.kind ∧ kindM o.kind < 8 := by omega
  have hc : kindM o.kind = 0 ∨ kindM o.kind = 1 ∨ kindM o.kind = 2 ∨ kindM o.kind = 3 ∨ kindM o.kind = 4 ∨ kindM o.kind = 5 ∨ kindM o.kind = 6 ∨ kindM o.kind = 7 := by omega
  rcases hc with hk | hk | hk | hk | hk | hk | hk | hk
  · exact one_begin base F0 g gb b1 b2 x b o v A1 A2 c1 c2 Ap cp w hd hb hx hs hB ho hbase hov hol hsub hF0 hk
  · exact one_put1 base F0 g gb b1 b2 x b o v A1 A2 c1 c2 Ap cp w hd hb hx hs hB ho hbase hov hol hsub hF0 hk
  · exact one_put2 base F0 g gb b1 b2 x b o v A1 A2 c1 c2 Ap cp w hd hb hx hs hB ho hbase hov hol hsub hF0 hk
  · exact one_commit base F0 g gb b1 b2 x b o v A1 A2 c1 c2 Ap cp w hd hb hx hs hB ho hbase hov hol hsub hF0 hk
  · exact one_confirm base F0 g gb b1 b2 x b o v A1 A2 c1 c2 Ap cp w hd hb hx hs hB ho hbase hov hol hsub hF0 hk
  · exact one_try base F0 g gb b1 b2 x b o v A1 A2 c1 c2 Ap cp w hd hb hx hs hB ho hbase hov hol hsub hF0 hk
  · exact one_arm base F0 g gb b1 b2 x b o v A1 A2 c1 c2 Ap cp w hd hb hx hs hB ho hbase hov hol hsub hF0 hk
  · exact one_power base F0 g gb b1 b2 x b o v A1 A2 c1 c2 Ap cp w hd hb hx hs hB ho hbase hov hol hsub hF0 hk
end
end Go.Proofs.Yteanpgkonhdbpaa
