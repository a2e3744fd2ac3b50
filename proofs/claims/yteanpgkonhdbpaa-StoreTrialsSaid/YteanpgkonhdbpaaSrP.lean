/- A store on a new device (law09's New); its calls (do); walked. Condition: the device is one that may be. A call of a store (law09's do); walked. Condition: the device is one that may be, of at least six sectors of thirteen words. The law's calls (law09) as an argument; what is too much; two rows of words; walked. No condition. -/
import Derived.Test.YteanpgkonhdbpaaSrH
import Derived.Test.YteanpgkonhdbpaaFlashNew
import Derived.Test.YteanpgkonhdbpaaLaw06Do
import Derived.Test.YteanpgkonhdbpaaLaw
namespace Go.Proofs.Yteanpgkonhdbpaa
open Go.RowKit

def instS (d : Dev) (l : List Nat) : StS × Int := installSr (newSr d) l
def strtS (d : Dev) (l : List Nat) : StS × Int := startSr (instS d l).1 0
theorem strtS_ok {d : Dev} (ho : d.Ok) (h6 : 6 ≤ d.ns) (h13 : 13 ≤ d.nw) {l : List Nat} (hl : ∀ y ∈ l, y < 4294967296) : SrOk (strtS d l).1 := startSr_ok (installSr_ok (newSr_ok ho h6 h13) hl) 0
def RetNew9 (w : World) (d : Dev) (l : List Nat) (e : Ending) (w' : World) : Prop :=
  if (instS d l).2 = 0 ∧ (strtS d l).2 = 0 then ∃ v : StW, e = .returned (.tuple #[.pointer (some ⟨v.g, 0, none⟩), .pointer (some ⟨v.gs, 0, none⟩)]) ∧ SrAt w' v (strtS d l).1 ∧ (∀ y ∈ v.all, w.heap.size ≤ y) ∧ Keep [] w w'
  else e = .returned (.tuple #[.pointer none, .pointer none]) ∧ Keep [] w w'
set_option maxRecDepth 100000 in
set_option maxHeartbeats 4000000 in
theorem lnew_any (k : Int) (d : Dev) (A : Option Addr) (n c : Nat) (l : List Nat) (w : World) (hn : ∀ W, Calls Try.prog 12 #[.int .i64 k, .int .i64 16, .int .i64 50] W (RetNew W d)) (ho : d.Ok) (h6 : 6 ≤ d.ns) (h13 : 13 ≤ d.nw)
    (hl : l.length = n) (h32 : ∀ y ∈ l, y < 4294967296) (hr : Reads w 1 A n (wordsV l)) (hln : n ≤ 1000000) :
    Calls Try.prog 51 #[.int .i64 k, .slice A n c] w (RetNew9 w d l) := by
  have HN := Lib.hid (hn w)
  have HIS : Hid (instS d l = installSr (newSr d) l) := show _ = _ from rfl
  have HSS : Hid (strtS d l = startSr (instS d l).1 0) := show _ = _ from rfl
  have HSN := fun g b1 b2 W (h : DevAt W g b1 b2 d) => Lib.hid (snew_yes g b1 b2 d W h ho h6 h13)
  have hok0 := newSr_ok ho h6 h13
  have hok1 := installSr_ok hok0 h32
  rw [← HIS.out] at hok1
  have HIN := fun (v : StW) W (h : SrAt W v (newSr d)) (hk : Keep [] w W) (hlo : ∀ y ∈ v.all, w.heap.size ≤ y) => Lib.hid (sinstall_any v (newSr d) W A n c l h hok0 hl h32 (hr.keep0 hk) (fun h0 ad ha hm => by
    obtain ⟨b, o, e, hb, _⟩ := hr.addr h0
    rw [e] at ha
    cases ha
    have := hlo _ hm
    dsimp only at this
    omega) hln)
  rw [← HIS.out] at HIN
  have HST := fun (v : StW) W (h : SrAt W v (instS d l).1) => Lib.hid (sstart_any v (instS d l).1 W 0 h hok1)
  rw [← HSS.out] at HST
  have HP : Hid (∀ e w', RetNew9 w d l e w' ↔ (if (instS d l).2 = 0 ∧ (strtS d l).2 = 0 then ∃ v : StW, e = .returned (.tuple #[.pointer (some ⟨v.g, 0, none⟩), .pointer (some ⟨v.gs, 0, none⟩)]) ∧ SrAt w' v (strtS d l).1 ∧ (∀ y ∈ v.all, w.heap.size ≤ y) ∧ Keep [] w w'
  else e = .returned (.tuple #[.pointer none, .pointer none]) ∧ Keep [] w w')) := fun e w' => Iff.rfl
  generalize RetNew9 w d l = RP at *
  clear hn hr HIS HSS hok1 hok0
  generalize instS d l = r1 at *
  generalize strtS d l = r2 at *
  obtain ⟨s1, n1⟩ := r1
  obtain ⟨s2, n2⟩ := r2
  dsimp only at *
  go_enter Try.func51, Try.ntmps51
  go_wp2_with fail
  refine HN.out.mono ?_
  rintro e w1 ⟨g, b1, b2, rfl, l1, l2, l3, hd1, k1⟩
  have HSN1 := HSN g b1 b2 w1 hd1
  have hlt : g < w1.heap.size ∧ b1 < w1.heap.size ∧ b2 < w1.heap.size := ⟨hd1.dev.lt, hd1.bits.lt, hd1.worn.lt⟩
  have HK1 := Lib.hid k1
  clear hd1 k1 HSN HN
  go_wp2_with fail
  refine HSN1.out.mono ?_
  rintro e w2 ⟨gs, gb0, gb1, rfl, hlo, hs2, k2⟩
  have hz1 := HK1.out.size
  have hall : ∀ y ∈ (⟨gs, g, gb0, gb1, b1, b2⟩ : StW).all, w.heap.size ≤ y := fun y hy => by
    unfold StW.all at hy
    simp only [List.mem_cons, List.not_mem_nil, or_false] at hy
    omega
  have HALL := Lib.hid hall
  have HS2 := Lib.hid hs2
  have HK2 := Lib.hid (HK1.out.then k2)
  have HIN2 := HIN ⟨gs, g, gb0, gb1, b1, b2⟩ w2 hs2 HK2.out hall
  clear hs2 k2 hall HSN1 HIN HK1
  dsimp only at HIN2
  go_upto_region 5 with fail
  go_wp2_with fail
  refine HIN2.out.mono ?_
  rintro e w3 ⟨rfl, hs3, k3⟩
  have HK3 : Hid (Keep [] w w3) := HK2.out.trans k3 (fun y hy hl => by have := HALL.out y hy; omega)
  have HST3 := HST ⟨gs, g, gb0, gb1, b1, b2⟩ w3 hs3
  clear k3 hs3 HIN2 HS2 HK2 HST
  dsimp only at HST3
  by_cases h1 : n1 = 0
  · subst h1
    go_wp2_with fail
    refine HST3.out.mono ?_
    rintro e w4 ⟨rfl, hs4, k4⟩
    have HK4 : Hid (Keep [] w w4) := HK3.out.trans k4 (fun y hy hl => by have := HALL.out y hy; omega)
    have HS4 := Lib.hid hs4
    clear k4 hs4 HST3 HK3
    by_cases h2 : n2 = 0
    · subst h2
      go_wp2_with fail
      rw [HP.out, if_pos (by simp)]
      exact ⟨⟨gs, g, gb0, gb1, b1, b2⟩, rfl, HS4.out, HALL.out, HK4.out⟩
    · have q0 : (n2 == 0) = false := beq_eq_false_iff_ne.2 h2
      have q1 := eq_false h2
      go_wp2_with fail
      rw [HP.out, if_neg (fun e => h2 e.2)]
      exact ⟨rfl, HK4.out⟩
  · have q0 : (n1 == 0) = false := beq_eq_false_iff_ne.2 h1
    have q1 := eq_false h1
    go_wp2_with fail
    rw [HP.out, if_neg (fun e => h1 e.1)]
    exact ⟨rfl, HK3.out⟩
end Go.Proofs.Yteanpgkonhdbpaa

namespace Go.Proofs.Yteanpgkonhdbpaa
open Go.RowKit

/-- A call of the law, and where its words lie. -/
structure SOp where
  kind : Int
  n : Int
  s : Nat
  l : List Nat
structure SOpV where
  a : Option Addr
  c : Nat
abbrev sopCells (o : SOp × SOpV) : List Value := [.int .i64 o.1.kind, .int .i64 o.1.n, .int .u32 (o.1.s : Int), .slice o.2.a o.1.l.length o.2.c]
structure SOpAt (W : World) (o : SOp × SOpV) : Prop where
  words : Reads W 1 o.2.a o.1.l.length (wordsV o.1.l)
  lt : ∀ y ∈ o.1.l, y < 4294967296
  s32 : o.1.s < 4294967296
  n64 : o.1.n ≤ 9223372036854775807
theorem SOpAt.keep0 {W W' : World} {o : SOp × SOpV} (h : SOpAt W o) (k : Keep [] W W') : SOpAt W' o := ⟨h.words.keep0 k, h.lt, h.s32, h.n64⟩
theorem agg_sop : AggOf Try.prog 100 4 := ⟨by kernel_rfl, by kernel_rfl⟩
def kindN (k : Int) : Int := (k.tmod 9 + 9).tmod 9
theorem kindN_facts (k : Int) : -9 < k.tmod 9 ∧ k.tmod 9 < 9 ∧ (k.tmod 9 + 9) % 9 = kindN k := by
  have h1 : -9 < k.tmod 9 := Int.lt_tmod_of_pos k (by decide)
  have h2 : k.tmod 9 < 9 := Int.tmod_lt_of_pos k (by decide)
  refine ⟨h1, h2, ?_⟩
  unfold kindN
  exact (Int.tmod_eq_emod_of_nonneg (by omega)).symm
def doSr (s : StS) (o : SOp) : StS × Int :=
  if kindN o.kind = 0 then beginSr s
  else if kindN o.kind = 3 then commitSr s
  else if kindN o.kind = 4 then confirmSr s
  else if kindN o.kind = 5 then startSr s o.n
  else if kindN o.kind = 6 then ({ s with r := -1 }, 0)
  else if kindN o.kind = 7 then ({ s with d := armS s.d o.n o.s }, 0)
  else if kindN o.kind = 8 then (newSr (powerS s.d true), 0)
  else putSr s o.l
theorem SrOk.dev {s : StS} (h : SrOk s) {d' : Dev} (hd : d'.Ok) (hk : DimsJ s.d d') : SrOk { s with d := d' } :=
  ⟨hd, by show 6 ≤ d'.ns; rw [hk.ns]; exact h.six, by show 13 ≤ d'.nw; rw [hk.nw]; exact h.words, h.base0, by show s.x0.many = d'.ns / 2; rw [hk.ns, h.many0], by show s.x1.base = d'.ns / 2; rw [hk.ns, h.base1], by show s.x1.many = d'.ns / 2; rw [hk.ns, h.many1], h.run, h.fine0, h.fine1⟩
theorem doSr_ok {s : StS} (ho : SrOk s) {o : SOp} (hl : ∀ y ∈ o.l, y < 4294967296) (hs : o.s < 4294967296) (hn : o.n ≤ 9223372036854775807) : SrOk (doSr s o).1 := by
  unfold doSr
  split
  · exact beginSr_ok ho
  · split
    · exact commitSr_ok ho
    · split
      · exact confirmSr_ok ho
      · split
        · exact startSr_ok ho o.n
        · split
          · exact ho.setRun (.inl rfl)
          · split
            · exact ho.dev (armS_ok ho.ok _ _ hs hn) ⟨rfl, rfl, rfl⟩
            · split
              · exact newSr_ok (powerS_ok ho.ok true) ho.six ho.words
              · exact putSr_ok ho hl
def RetDo9 (w : World) (v : StW) (s : StS) (n : Int) (e : Ending) (w' : World) : Prop :=
  ∃ v' : StW, (v'.g = v.g ∧ v'.b1 = v.b1 ∧ v'.b2 = v.b2) ∧ (∀ y ∈ v'.all, y ∈ v.all ∨ w.heap.size ≤ y) ∧ e = .returned (.tuple #[.pointer (some ⟨v'.gs, 0, none⟩), .int .i64 n]) ∧ SrAt w' v' s ∧ Keep v.all w w'
theorem retDo9_of {w W w' : World} {v : StW} {s : StS} {n : Int} (hk : Keep [] w W) (h : SrAt w' v s) (k : Keep v.all W w') : RetDo9 w v s n (.returned (.tuple #[.pointer (some ⟨v.gs, 0, none⟩), .int .i64 n])) w' :=
  ⟨v, ⟨rfl, rfl, rfl⟩, fun y hy => .inl hy, rfl, h, Keep.trans (hk.mono (by simp)) k (fun y hy _ => hy)⟩

section
variable (v : StW) (s : StS) (o : SOp) (x : SOpV) (w : World) (hs : SrAt w v s) (ho : SrOk s) (hop : SOpAt w (o, x)) (hoff : 0 < o.l.length → Off v.all x.a) (hol : o.l.length ≤ 40)
include hs ho hop hoff hol

set_option maxRecDepth 100000 in
set_option maxHeartbeats 2000000 in
theorem do_begin9 (hk : kindN o.kind = 0) : Calls Try.prog 52 #[.pointer (some ⟨v.g, 0, none⟩), .pointer (some ⟨v.gs, 0, none⟩), .agg (sopCells (o, x)).toArray] w (RetDo9 w v (doSr s o).1 (doSr s o).2) := by
  have _HOL := Lib.hid hol
  have _HOF := Lib.hid hoff
  have _HOPP := Lib.hid hop
  have b0 : Blk (w.alloc (.cells (sopCells (o, x)).toArray 100)) w.heap.size 100 (sopCells (o, x)).toArray := Blk.new _ _ _
  have k0 : Keep [] w (w.alloc (.cells (sopCells (o, x)).toArray 100)) := (Keep.refl [] w).alloc _
  have HW : Hid (w.alloc (.cells (sopCells (o, x)).toArray 100) = w.alloc (.cells (sopCells (o, x)).toArray 100)) := Lib.hid rfl
  obtain ⟨W, hW⟩ : ∃ W, w.alloc (.cells (sopCells (o, x)).toArray 100) = W := ⟨_, rfl⟩
  rw [hW] at b0 k0
  clear HW
  have HW := Lib.hid hW
  clear hW
  obtain ⟨m1, m2, m3⟩ := kindN_facts o.kind
  rw [hk] at m3
  have o0 : W.cell? ⟨w.heap.size, 0, none⟩ = some (.int .i64 o.kind) := b0.cell 0
  have HK0 := Lib.hid k0
  have HS := Lib.hid hs
  have HO := Lib.hid ho
  have hone : doSr s o = beginSr s := by unfold doSr; rw [if_pos hk]
  rw [hone]
  have HC := Lib.hid (sbegin_any v s W (hs.keep0 k0) ho)
  generalize beginSr s = r at *
  obtain ⟨s1, n1⟩ := r
  dsimp only at HC ⊢
  clear hone b0 k0 hs ho hop hoff hol hk
  go_enter Try.func52, Try.ntmps52
  go_upto_region 1 with fail
  rw [HW.out]
  clear HW
  go_wp2_with fail
  refine HC.out.mono ?_
  rintro e w1 ⟨rfl, hs1, k1⟩
  have HF := Lib.hid (retDo9_of (n := n1) HK0.out hs1 k1)
  clear hs1 k1 HC
  go_wp2_with fail
  go_ret2
  exact HF.out

set_option maxRecDepth 100000 in
set_option maxHeartbeats 2000000 in
theorem do_commit9 (hk : kindN o.kind = 3) : Calls Try.prog 52 #[.pointer (some ⟨v.g, 0, none⟩), .pointer (some ⟨v.gs, 0, none⟩), .agg (sopCells (o, x)).toArray] w (RetDo9 w v (doSr s o).1 (doSr s o).2) := by
  have _HOL := Lib.hid hol
  have _HOF := Lib.hid hoff
  have _HOPP := Lib.hid hop
  have b0 : Blk (w.alloc (.cells (sopCells (o, x)).toArray 100)) w.heap.size 100 (sopCells (o, x)).toArray := Blk.new _ _ _
  have k0 : Keep [] w (w.alloc (.cells (sopCells (o, x)).toArray 100)) := (Keep.refl [] w).alloc _
  have HW : Hid (w.alloc (.cells (sopCells (o, x)).toArray 100) = w.alloc (.cells (sopCells (o, x)).toArray 100)) := Lib.hid rfl
  obtain ⟨W, hW⟩ : ∃ W, w.alloc (.cells (sopCells (o, x)).toArray 100) = W := ⟨_, rfl⟩
  rw [hW] at b0 k0
  clear HW
  have HW := Lib.hid hW
  clear hW
  obtain ⟨m1, m2, m3⟩ := kindN_facts o.kind
  rw [hk] at m3
  have o0 : W.cell? ⟨w.heap.size, 0, none⟩ = some (.int .i64 o.kind) := b0.cell 0
  have HK0 := Lib.hid k0
  have HS := Lib.hid hs
  have HO := Lib.hid ho
  have hone : doSr s o = commitSr s := by unfold doSr; rw [if_neg (by rw [hk]; decide), if_pos hk]
  rw [hone]
  have HC := Lib.hid (scommit_any v s W (hs.keep0 k0) ho)
  generalize commitSr s = r at *
  obtain ⟨s1, n1⟩ := r
  dsimp only at HC ⊢
  clear hone b0 k0 hs ho hop hoff hol hk
  go_enter Try.func52, Try.ntmps52
  go_upto_region 1 with fail
  rw [HW.out]
  clear HW
  go_wp2_with fail
  refine HC.out.mono ?_
  rintro e w1 ⟨rfl, hs1, k1⟩
  have HF := Lib.hid (retDo9_of (n := n1) HK0.out hs1 k1)
  clear hs1 k1 HC
  go_wp2_with fail
  go_ret2
  exact HF.out

set_option maxRecDepth 100000 in
set_option maxHeartbeats 2000000 in
theorem do_confirm9 (hk : kindN o.kind = 4) : Calls Try.prog 52 #[.pointer (some ⟨v.g, 0, none⟩), .pointer (some ⟨v.gs, 0, none⟩), .agg (sopCells (o, x)).toArray] w (RetDo9 w v (doSr s o).1 (doSr s o).2) := by
  have _HOL := Lib.hid hol
  have _HOF := Lib.hid hoff
  have _HOPP := Lib.hid hop
  have b0 : Blk (w.alloc (.cells (sopCells (o, x)).toArray 100)) w.heap.size 100 (sopCells (o, x)).toArray := Blk.new _ _ _
  have k0 : Keep [] w (w.alloc (.cells (sopCells (o, x)).toArray 100)) := (Keep.refl [] w).alloc _
  have HW : Hid (w.alloc (.cells (sopCells (o, x)).toArray 100) = w.alloc (.cells (sopCells (o, x)).toArray 100)) := Lib.hid rfl
  obtain ⟨W, hW⟩ : ∃ W, w.alloc (.cells (sopCells (o, x)).toArray 100) = W := ⟨_, rfl⟩
  rw [hW] at b0 k0
  clear HW
  have HW := Lib.hid hW
  clear hW
  obtain ⟨m1, m2, m3⟩ := kindN_facts o.kind
  rw [hk] at m3
  have o0 : W.cell? ⟨w.heap.size, 0, none⟩ = some (.int .i64 o.kind) := b0.cell 0
  have HK0 := Lib.hid k0
  have HS := Lib.hid hs
  have HO := Lib.hid ho
  have hone : doSr s o = confirmSr s := by unfold doSr; rw [if_neg (by rw [hk]; decide), if_neg (by rw [hk]; decide), if_pos hk]
  rw [hone]
  have HC := Lib.hid (sconfirm_any v s W (hs.keep0 k0) ho)
  generalize confirmSr s = r at *
  obtain ⟨s1, n1⟩ := r
  dsimp only at HC ⊢
  clear hone b0 k0 hs ho hop hoff hol hk
  go_enter Try.func52, Try.ntmps52
  go_upto_region 1 with fail
  rw [HW.out]
  clear HW
  go_wp2_with fail
  refine HC.out.mono ?_
  rintro e w1 ⟨rfl, hs1, k1⟩
  have HF := Lib.hid (retDo9_of (n := n1) HK0.out hs1 k1)
  clear hs1 k1 HC
  go_wp2_with fail
  go_ret2
  exact HF.out

set_option maxRecDepth 100000 in
set_option maxHeartbeats 2000000 in
theorem do_start9 (hk : kindN o.kind = 5) : Calls Try.prog 52 #[.pointer (some ⟨v.g, 0, none⟩), .pointer (some ⟨v.gs, 0, none⟩), .agg (sopCells (o, x)).toArray] w (RetDo9 w v (doSr s o).1 (doSr s o).2) := by
  have _HOL := Lib.hid hol
  have _HOF := Lib.hid hoff
  have _HOPP := Lib.hid hop
  have b0 : Blk (w.alloc (.cells (sopCells (o, x)).toArray 100)) w.heap.size 100 (sopCells (o, x)).toArray := Blk.new _ _ _
  have k0 : Keep [] w (w.alloc (.cells (sopCells (o, x)).toArray 100)) := (Keep.refl [] w).alloc _
  have HW : Hid (w.alloc (.cells (sopCells (o, x)).toArray 100) = w.alloc (.cells (sopCells (o, x)).toArray 100)) := Lib.hid rfl
  obtain ⟨W, hW⟩ : ∃ W, w.alloc (.cells (sopCells (o, x)).toArray 100) = W := ⟨_, rfl⟩
  rw [hW] at b0 k0
  clear HW
  have HW := Lib.hid hW
  clear hW
  obtain ⟨m1, m2, m3⟩ := kindN_facts o.kind
  rw [hk] at m3
  have o0 : W.cell? ⟨w.heap.size, 0, none⟩ = some (.int .i64 o.kind) := b0.cell 0
  have HK0 := Lib.hid k0
  have HS := Lib.hid hs
  have HO := Lib.hid ho
  have hone : doSr s o = startSr s o.n := by unfold doSr; rw [if_neg (by rw [hk]; decide), if_neg (by rw [hk]; decide), if_neg (by rw [hk]; decide), if_pos hk]
  rw [hone]
  have HC := Lib.hid (sstart_any v s W o.n (hs.keep0 k0) ho)
  have o1 : W.cell? ⟨w.heap.size, 1, none⟩ = some (.int .i64 o.n) := b0.cell 1
  generalize startSr s o.n = r at *
  obtain ⟨s1, n1⟩ := r
  dsimp only at HC ⊢
  clear hone b0 k0 hs ho hop hoff hol hk
  go_enter Try.func52, Try.ntmps52
  go_upto_region 1 with fail
  rw [HW.out]
  clear HW
  go_wp2_with fail
  refine HC.out.mono ?_
  rintro e w1 ⟨rfl, hs1, k1⟩
  have HF := Lib.hid (retDo9_of (n := n1) HK0.out hs1 k1)
  clear hs1 k1 HC
  go_wp2_with fail
  go_ret2
  exact HF.out

set_option maxRecDepth 100000 in
set_option maxHeartbeats 2000000 in
theorem do_put9a (hk : kindN o.kind = 1) : Calls Try.prog 52 #[.pointer (some ⟨v.g, 0, none⟩), .pointer (some ⟨v.gs, 0, none⟩), .agg (sopCells (o, x)).toArray] w (RetDo9 w v (doSr s o).1 (doSr s o).2) := by
  have _HOL := Lib.hid hol
  have _HOF := Lib.hid hoff
  have _HOPP := Lib.hid hop
  have b0 : Blk (w.alloc (.cells (sopCells (o, x)).toArray 100)) w.heap.size 100 (sopCells (o, x)).toArray := Blk.new _ _ _
  have k0 : Keep [] w (w.alloc (.cells (sopCells (o, x)).toArray 100)) := (Keep.refl [] w).alloc _
  have HW : Hid (w.alloc (.cells (sopCells (o, x)).toArray 100) = w.alloc (.cells (sopCells (o, x)).toArray 100)) := Lib.hid rfl
  obtain ⟨W, hW⟩ : ∃ W, w.alloc (.cells (sopCells (o, x)).toArray 100) = W := ⟨_, rfl⟩
  rw [hW] at b0 k0
  clear HW
  have HW := Lib.hid hW
  clear hW
  obtain ⟨m1, m2, m3⟩ := kindN_facts o.kind
  rw [hk] at m3
  have o0 : W.cell? ⟨w.heap.size, 0, none⟩ = some (.int .i64 o.kind) := b0.cell 0
  have HK0 := Lib.hid k0
  have HS := Lib.hid hs
  have HO := Lib.hid ho
  have hone : doSr s o = putSr s o.l := by unfold doSr; rw [if_neg (by rw [hk]; decide), if_neg (by rw [hk]; decide), if_neg (by rw [hk]; decide), if_neg (by rw [hk]; decide), if_neg (by rw [hk]; decide), if_neg (by rw [hk]; decide), if_neg (by rw [hk]; decide)]
  rw [hone]
  have HC := Lib.hid (sput_any v s W x.a o.l.length x.c o.l (hs.keep0 k0) ho rfl hop.lt (hop.words.keep0 k0) hoff (by omega))
  have o3 : W.cell? ⟨w.heap.size, 3, none⟩ = some (.slice x.a o.l.length x.c) := b0.cell 3
  generalize putSr s o.l = r at *
  obtain ⟨s1, n1⟩ := r
  dsimp only at HC ⊢
  clear hone b0 k0 hs ho hop hoff hol hk
  go_enter Try.func52, Try.ntmps52
  go_upto_region 1 with fail
  rw [HW.out]
  clear HW
  go_wp2_with fail
  refine HC.out.mono ?_
  rintro e w1 ⟨rfl, hs1, k1⟩
  have HF := Lib.hid (retDo9_of (n := n1) HK0.out hs1 k1)
  clear hs1 k1 HC
  go_wp2_with fail
  go_ret2
  exact HF.out

set_option maxRecDepth 100000 in
set_option maxHeartbeats 2000000 in
theorem do_put9b (hk : kindN o.kind = 2) : Calls Try.prog 52 #[.pointer (some ⟨v.g, 0, none⟩), .pointer (some ⟨v.gs, 0, none⟩), .agg (sopCells (o, x)).toArray] w (RetDo9 w v (doSr s o).1 (doSr s o).2) := by
  have _HOL := Lib.hid hol
  have _HOF := Lib.hid hoff
  have _HOPP := Lib.hid hop
  have b0 : Blk (w.alloc (.cells (sopCells (o, x)).toArray 100)) w.heap.size 100 (sopCells (o, x)).toArray := Blk.new _ _ _
  have k0 : Keep [] w (w.alloc (.cells (sopCells (o, x)).toArray 100)) := (Keep.refl [] w).alloc _
  have HW : Hid (w.alloc (.cells (sopCells (o, x)).toArray 100) = w.alloc (.cells (sopCells (o, x)).toArray 100)) := Lib.hid rfl
  obtain ⟨W, hW⟩ : ∃ W, w.alloc (.cells (sopCells (o, x)).toArray 100) = W := ⟨_, rfl⟩
  rw [hW] at b0 k0
  clear HW
  have HW := Lib.hid hW
  clear hW
  obtain ⟨m1, m2, m3⟩ := kindN_facts o.kind
  rw [hk] at m3
  have o0 : W.cell? ⟨w.heap.size, 0, none⟩ = some (.int .i64 o.kind) := b0.cell 0
  have HK0 := Lib.hid k0
  have HS := Lib.hid hs
  have HO := Lib.hid ho
  have hone : doSr s o = putSr s o.l := by unfold doSr; rw [if_neg (by rw [hk]; decide), if_neg (by rw [hk]; decide), if_neg (by rw [hk]; decide), if_neg (by rw [hk]; decide), if_neg (by rw [hk]; decide), if_neg (by rw [hk]; decide), if_neg (by rw [hk]; decide)]
  rw [hone]
  have HC := Lib.hid (sput_any v s W x.a o.l.length x.c o.l (hs.keep0 k0) ho rfl hop.lt (hop.words.keep0 k0) hoff (by omega))
  have o3 : W.cell? ⟨w.heap.size, 3, none⟩ = some (.slice x.a o.l.length x.c) := b0.cell 3
  generalize putSr s o.l = r at *
  obtain ⟨s1, n1⟩ := r
  dsimp only at HC ⊢
  clear hone b0 k0 hs ho hop hoff hol hk
  go_enter Try.func52, Try.ntmps52
  go_upto_region 1 with fail
  rw [HW.out]
  clear HW
  go_wp2_with fail
  refine HC.out.mono ?_
  rintro e w1 ⟨rfl, hs1, k1⟩
  have HF := Lib.hid (retDo9_of (n := n1) HK0.out hs1 k1)
  clear hs1 k1 HC
  go_wp2_with fail
  go_ret2
  exact HF.out

set_option maxRecDepth 100000 in
set_option maxHeartbeats 2000000 in
theorem do_stop9 (hk : kindN o.kind = 6) : Calls Try.prog 52 #[.pointer (some ⟨v.g, 0, none⟩), .pointer (some ⟨v.gs, 0, none⟩), .agg (sopCells (o, x)).toArray] w (RetDo9 w v (doSr s o).1 (doSr s o).2) := by
  have _HOL := Lib.hid hol
  have _HOF := Lib.hid hoff
  have _HOPP := Lib.hid hop
  have b0 : Blk (w.alloc (.cells (sopCells (o, x)).toArray 100)) w.heap.size 100 (sopCells (o, x)).toArray := Blk.new _ _ _
  have k0 : Keep [] w (w.alloc (.cells (sopCells (o, x)).toArray 100)) := (Keep.refl [] w).alloc _
  have HW : Hid (w.alloc (.cells (sopCells (o, x)).toArray 100) = w.alloc (.cells (sopCells (o, x)).toArray 100)) := Lib.hid rfl
  obtain ⟨W, hW⟩ : ∃ W, w.alloc (.cells (sopCells (o, x)).toArray 100) = W := ⟨_, rfl⟩
  rw [hW] at b0 k0
  clear HW
  have HW := Lib.hid hW
  clear hW
  obtain ⟨m1, m2, m3⟩ := kindN_facts o.kind
  rw [hk] at m3
  have o0 : W.cell? ⟨w.heap.size, 0, none⟩ = some (.int .i64 o.kind) := b0.cell 0
  have HK0 := Lib.hid k0
  have HS := Lib.hid hs
  have HO := Lib.hid ho
  have hone : doSr s o = ({ s with r := -1 }, 0) := by unfold doSr; rw [if_neg (by rw [hk]; decide), if_neg (by rw [hk]; decide), if_neg (by rw [hk]; decide), if_neg (by rw [hk]; decide), if_pos hk]
  rw [hone]
  have HC := Lib.hid (sstop_any v s W (hs.keep0 k0))
  clear hone b0 k0 hs ho hop hoff hol hk
  go_enter Try.func52, Try.ntmps52
  go_upto_region 1 with fail
  rw [HW.out]
  clear HW
  go_wp2_with fail
  refine HC.out.mono ?_
  rintro e w1 ⟨rfl, hs1, k1⟩
  have HF := Lib.hid (retDo9_of (n := 0) HK0.out hs1 (k1.mono (fun y hy _ => gs_mem v y hy)))
  clear hs1 k1 HC
  go_wp2_with fail
  go_ret2
  exact HF.out

set_option maxRecDepth 100000 in
set_option maxHeartbeats 2000000 in
theorem do_arm9 (hk : kindN o.kind = 7) : Calls Try.prog 52 #[.pointer (some ⟨v.g, 0, none⟩), .pointer (some ⟨v.gs, 0, none⟩), .agg (sopCells (o, x)).toArray] w (RetDo9 w v (doSr s o).1 (doSr s o).2) := by
  have _HOL := Lib.hid hol
  have _HOF := Lib.hid hoff
  have _HOPP := Lib.hid hop
  have b0 : Blk (w.alloc (.cells (sopCells (o, x)).toArray 100)) w.heap.size 100 (sopCells (o, x)).toArray := Blk.new _ _ _
  have k0 : Keep [] w (w.alloc (.cells (sopCells (o, x)).toArray 100)) := (Keep.refl [] w).alloc _
  have HW : Hid (w.alloc (.cells (sopCells (o, x)).toArray 100) = w.alloc (.cells (sopCells (o, x)).toArray 100)) := Lib.hid rfl
  obtain ⟨W, hW⟩ : ∃ W, w.alloc (.cells (sopCells (o, x)).toArray 100) = W := ⟨_, rfl⟩
  rw [hW] at b0 k0
  clear HW
  have HW := Lib.hid hW
  clear hW
  obtain ⟨m1, m2, m3⟩ := kindN_facts o.kind
  rw [hk] at m3
  have o0 : W.cell? ⟨w.heap.size, 0, none⟩ = some (.int .i64 o.kind) := b0.cell 0
  have HK0 := Lib.hid k0
  have HS := Lib.hid hs
  have HO := Lib.hid ho
  have hone : doSr s o = ({ s with d := armS s.d o.n o.s }, 0) := by unfold doSr; rw [if_neg (by rw [hk]; decide), if_neg (by rw [hk]; decide), if_neg (by rw [hk]; decide), if_neg (by rw [hk]; decide), if_neg (by rw [hk]; decide), if_pos hk]
  rw [hone]
  have HC := Lib.hid (farm_any v.g v.b1 v.b2 s.d o.n o.s W (hs.keep0 k0).dev)
  have o1 : W.cell? ⟨w.heap.size, 1, none⟩ = some (.int .i64 o.n) := b0.cell 1
  have o2 : W.cell? ⟨w.heap.size, 2, none⟩ = some (.int .u32 (o.s : Int)) := b0.cell 2
  clear hone b0 k0 hs ho hop hoff hol hk
  go_enter Try.func52, Try.ntmps52
  go_upto_region 1 with fail
  rw [HW.out]
  clear HW
  go_wp2_with fail
  refine HC.out.mono ?_
  rintro e w1 ⟨rfl, hd1, k1⟩
  obtain ⟨n1, n2, n3, n4, n5, n6, n7, n8, n9, n10, n11⟩ := HS.out.nes
  have hs1 : SrAt w1 v { s with d := armS s.d o.n o.s } := ⟨(HS.out.keep0 HK0.out).st.keep k1 (by simp [n3]), hd1, Blk.keep (HS.out.keep0 HK0.out).bk0 k1 (by simp [n6]), Blk.keep (HS.out.keep0 HK0.out).bk1 k1 (by simp [n9]), HS.out.ne⟩
  have HF := Lib.hid (retDo9_of (n := 0) HK0.out hs1 (k1.mono (G := v.all) (fun y hy _ => by unfold StW.all; simp only [List.mem_cons, List.not_mem_nil, or_false] at hy ⊢; simp [hy])))
  clear hs1 k1 HC hd1 n1 n2 n3 n4 n5 n6 n7 n8 n9 n10 n11
  go_wp2_with fail
  go_ret2
  exact HF.out

set_option maxRecDepth 100000 in
set_option maxHeartbeats 2000000 in
theorem do_new9 (hk : kindN o.kind = 8) : Calls Try.prog 52 #[.pointer (some ⟨v.g, 0, none⟩), .pointer (some ⟨v.gs, 0, none⟩), .agg (sopCells (o, x)).toArray] w (RetDo9 w v (doSr s o).1 (doSr s o).2) := by
  have _HOL := Lib.hid hol
  have _HOF := Lib.hid hoff
  have _HOPP := Lib.hid hop
  have b0 : Blk (w.alloc (.cells (sopCells (o, x)).toArray 100)) w.heap.size 100 (sopCells (o, x)).toArray := Blk.new _ _ _
  have k0 : Keep [] w (w.alloc (.cells (sopCells (o, x)).toArray 100)) := (Keep.refl [] w).alloc _
  have HW : Hid (w.alloc (.cells (sopCells (o, x)).toArray 100) = w.alloc (.cells (sopCells (o, x)).toArray 100)) := Lib.hid rfl
  obtain ⟨W, hW⟩ : ∃ W, w.alloc (.cells (sopCells (o, x)).toArray 100) = W := ⟨_, rfl⟩
  rw [hW] at b0 k0
  clear HW
  have HW := Lib.hid hW
  clear hW
  obtain ⟨m1, m2, m3⟩ := kindN_facts o.kind
  rw [hk] at m3
  have o0 : W.cell? ⟨w.heap.size, 0, none⟩ = some (.int .i64 o.kind) := b0.cell 0
  have HK0 := Lib.hid k0
  have HS := Lib.hid hs
  have HO := Lib.hid ho
  have hone : doSr s o = (newSr (powerS s.d true), 0) := by unfold doSr; rw [if_neg (by rw [hk]; decide), if_neg (by rw [hk]; decide), if_neg (by rw [hk]; decide), if_neg (by rw [hk]; decide), if_neg (by rw [hk]; decide), if_neg (by rw [hk]; decide), if_pos hk]
  rw [hone]
  have HC := Lib.hid (fpower_any v.g v.b1 v.b2 s.d true W (hs.keep0 k0).dev)
  have HN := fun W' (h : DevAt W' v.g v.b1 v.b2 (powerS s.d true)) => Lib.hid (snew_yes v.g v.b1 v.b2 (powerS s.d true) W' h (powerS_ok ho.ok true) ho.six ho.words)
  generalize powerS s.d true = d1 at *
  clear hone b0 k0 hs ho hop hoff hol hk
  go_enter Try.func52, Try.ntmps52
  go_upto_region 1 with fail
  rw [HW.out]
  clear HW
  go_wp2_with fail
  refine HC.out.mono ?_
  rintro e w1 ⟨rfl, hd1, k1⟩
  have HN1 := HN w1 hd1
  have HK1 : Hid (Keep v.all w w1) := Keep.trans (HK0.out.mono (by simp)) k1 (fun y hy _ => by unfold StW.all; simp only [List.mem_cons, List.not_mem_nil, or_false] at hy ⊢; simp [hy])
  clear HC HN hd1 k1
  go_wp2_with fail
  refine HN1.out.mono ?_
  rintro e w2 ⟨gs, gb0, gb1, rfl, hlo, hs2, k2⟩
  have hz := HK1.out.size
  have hF : RetDo9 w v (newSr d1) 0 (.returned (.tuple #[.pointer (some ⟨gs, 0, none⟩), .int .i64 0])) w2 := by
    refine ⟨⟨gs, v.g, gb0, gb1, v.b1, v.b2⟩, ⟨rfl, rfl, rfl⟩, fun y hy => ?_, rfl, hs2, Keep.trans HK1.out (k2.mono (G := v.all) (by simp)) (fun y hy _ => hy)⟩
    unfold StW.all at hy ⊢
    simp only [List.mem_cons, List.not_mem_nil, or_false] at hy ⊢
    omega
  have HF := Lib.hid hF
  clear hF hs2 k2 HN1
  go_wp2_with fail
  go_ret2
  exact HF.out

theorem do_any9 : Calls Try.prog 52 #[.pointer (some ⟨v.g, 0, none⟩), .pointer (some ⟨v.gs, 0, none⟩), .agg (sopCells (o, x)).toArray] w (RetDo9 w v (doSr s o).1 (doSr s o).2) := by
  obtain ⟨m1, m2, m3⟩ := kindN_facts o.kind
  have hc : kindN o.kind = 0 ∨ kindN o.kind = 1 ∨ kindN o.kind = 2 ∨ kindN o.kind = 3 ∨ kindN o.kind = 4 ∨ kindN o.kind = 5 ∨ kindN o.kind = 6 ∨ kindN o.kind = 7 ∨ kindN o.kind = 8 := by omega
  rcases hc with hk | hk | hk | hk | hk | hk | hk | hk | hk
  · exact do_begin9 v s o x w hs ho hop hoff hol hk
  · exact do_put9a v s o x w hs ho hop hoff hol hk
  · exact do_put9b v s o x w hs ho hop hoff hol hk
  · exact do_commit9 v s o x w hs ho hop hoff hol hk
  · exact do_confirm9 v s o x w hs ho hop hoff hol hk
  · exact do_start9 v s o x w hs ho hop hoff hol hk
  · exact do_stop9 v s o x w hs ho hop hoff hol hk
  · exact do_arm9 v s o x w hs ho hop hoff hol hk
  · exact do_new9 v s o x w hs ho hop hoff hol hk
end
end Go.Proofs.Yteanpgkonhdbpaa

namespace Go.Proofs.Yteanpgkonhdbpaa
open Go.RowKit

def sopRow (l : List (SOp × SOpV)) : List Value := l.flatMap sopCells
structure SOpsAt (w : World) (A : Option Addr) (ms : List (SOp × SOpV)) : Prop where
  rows : Reads w 4 A ms.length (sopRow ms)
  each : ∀ m ∈ ms, SOpAt w m
  len : ms.length ≤ maxLen
theorem SOpsAt.keep0 {w w' : World} {A : Option Addr} {ms : List (SOp × SOpV)} (h : SOpsAt w A ms) (k : Keep [] w w') : SOpsAt w' A ms := ⟨h.rows.keep0 k, fun m hm => (h.each m hm).keep0 k, h.len⟩
theorem sopRow_at (l : List (SOp × SOpV)) : ∀ (k : Nat) (hk : k < l.length) (j : Nat), j < 4 → (sopRow l)[k * 4 + j]? = (sopCells l[k])[j]? := by
  induction l with
  | nil => intro k hk; exact absurd hk (by simp)
  | cons e l ih =>
    intro k hk j hj
    rw [show sopRow (e :: l) = sopCells e ++ sopRow l from rfl]
    cases k with
    | zero => rw [List.getElem?_append_left (by simp; omega)]; simp
    | succ k =>
      rw [List.getElem?_append_right (by simp; omega)]
      have : (k + 1) * 4 + j - (sopCells e).length = k * 4 + j := by simp; omega
      rw [this]
      simpa using ih k (by simpa using hk) j hj
theorem SOpsAt.op {w : World} {A : Option Addr} {ms : List (SOp × SOpV)} (h : SOpsAt w A ms) (h0 : 0 < ms.length) : ∃ b o, A = some ⟨b, o, none⟩ ∧ b < w.heap.size ∧ ∀ k, (hk : k < ms.length) → CellsAt w b (o + k * 4) (sopCells ms[k]) := by
  obtain ⟨b, o, e, hb, hc⟩ := h.rows.addr h0
  refine ⟨b, o, e, hb, fun k hk j u hu => ?_⟩
  have hj : j < 4 := (List.getElem?_eq_some_iff.1 hu).1
  have := hc (k * 4 + j) u (by rw [sopRow_at ms k hk j hj]; exact hu)
  rw [Nat.add_assoc]
  exact this

def RetGr9 (w : World) (ms : List (SOp × SOpV)) (e : Ending) (w' : World) : Prop := ∃ r, e = .returned (.bool r) ∧ (r = false → ms.length ≤ 60 ∧ ∀ m ∈ ms, m.1.l.length ≤ 40) ∧ Keep [] w w'
set_option maxRecDepth 100000 in
set_option maxHeartbeats 2000000 in
theorem great_any9 (A : Option Addr) (c : Nat) (ms : List (SOp × SOpV)) (w : World) (h : SOpsAt w A ms) :
    Calls Try.prog 50 #[.slice A ms.length c] w (RetGr9 w ms) := by
  have l1 := h.len
  have hs := h.op
  have hlm : ∀ m ∈ ms, m.1.l.length ≤ maxLen ∨ True := fun _ _ => .inr trivial
  unfold maxLen at l1
  clear h hlm
  go_enter Try.func50, Try.ntmps50
  go_wp2
  go_loopw [3] (fun i wr => ∃ k : Nat, k ≤ 60 ∧ k ≤ ms.length ∧ i = .int .i64 k ∧ (∀ m ∈ ms.take k, m.1.l.length ≤ 40) ∧ Keep [] w wr) (fun i _ => 60 - (intOf i).toNat)
  case atStart => exact ⟨0, by omega, Nat.zero_le _, rfl, (fun m hm => by simp at hm), Keep.refl _ _⟩
  case round =>
    obtain ⟨k, hk9, hk2, rfl, hany, hkeep⟩ := hrel
    by_cases hlk : k < ms.length
    · have q1 : ((k : Int) < (ms.length : Int)) := by omega
      by_cases h6 : k < 60
      · have q2 : ((k : Int) < 60) := by omega
        obtain ⟨b, o, hA, hb, hc⟩ := hs (by omega)
        have ci := hc k hlk
        have hst : Hid (ms[k].1.l.length ≤ 40 → ∀ m ∈ ms.take (k + 1), m.1.l.length ≤ 40) := fun e m hm => by
          rw [List.take_succ_eq_append_getElem hlk] at hm
          rcases List.mem_append.1 hm with hm | hm
          · exact hany m hm
          · simp at hm; rw [hm]; exact e
        have c3 := (hkeep.cell (p := ⟨b, o + k * 4 + 3, none⟩) hb (by simp)).trans (ci 3 _ rfl)
        have k0 : (0 : Int) ≤ (k : Int) := by omega
        have HKp := Lib.hid hkeep
        have HA := Lib.hid hA
        clear hc ci hany hs hkeep
        generalize ms[k] = m at *
        obtain ⟨s, v⟩ := m
        simp only at c3 hst
        rw [hA]
        by_cases hg : 40 < s.l.length
        · have g1 : (40 : Int) < (s.l.length : Int) := by omega
          go_wp2
          go_ret
          exact ⟨true, rfl, fun e => (by cases e), HKp.out⟩
        · have g1 : ¬ (40 : Int) < (s.l.length : Int) := by omega
          have HR := Lib.hid (hst.out (by omega))
          go_wp2
          go_roundw
          case rel => exact ⟨k + 1, by omega, by omega, by go_num, HR.out, HKp.out⟩
          case measure => simp [intOf] <;> omega
      · have q2 : ¬ ((k : Int) < 60) := by omega
        have q3 : (60 : Int) < (ms.length : Int) := by omega
        have HKp := Lib.hid hkeep
        clear hs hany hkeep
        go_wp2
        go_ret
        exact ⟨true, by simp, fun e => (by cases e), HKp.out⟩
    · have q1 : ¬ ((k : Int) < (ms.length : Int)) := by omega
      have q3 : ¬ (60 : Int) < (ms.length : Int) := by omega
      have hall : Hid (∀ m ∈ ms, m.1.l.length ≤ 40) := fun m hm => hany m (by rw [List.take_of_length_le (by omega)]; exact hm)
      have HKp := Lib.hid hkeep
      clear hs hany hkeep
      go_wp2
      go_ret
      exact ⟨false, by simp, fun _ => ⟨by omega, hall.out⟩, HKp.out⟩
end Go.Proofs.Yteanpgkonhdbpaa

namespace Go.Proofs.Yteanpgkonhdbpaa
open Go.ChangeShapes Go.WideShapes Go.ChangeAt Go.RowKit Go.Deep

section
variable {H : Type} {enc : TypeId × Value → H} {w : World} {base : Nat} {spare : Nat → Bool} {held : Bool}
set_option maxRecDepth 100000 in
theorem rd_sop {n : Nat} {cs : List Value} {x : DataW H × List MemPlace} (h : DataW.trod enc Try.prog w base spare held n 100 cs = some x) : ∃ m : SOp × SOpV, cs = sopCells m ∧ SOpAt w m := by
  obtain ⟨xs, m, _, _, hlen, hxl, hf⟩ := DataW.trod_struct Try.underlying100 h
  have hC : Try.prog.cellsOf 100 = 4 := by kernel_rfl
  have c1 : Try.prog.cellsOf 3 = 1 := by kernel_rfl
  have c2 : Try.prog.cellsOf 33 = 1 := by kernel_rfl
  have c4 : Try.prog.cellsOf 54 = 1 := by kernel_rfl
  rw [hC] at hlen
  match cs, hlen, xs, hxl with
  | [v0, v1, v2, v3], _, [y0, y1, y2, y3], _ =>
    have h0 : DataW.trod enc Try.prog w base spare held m 3 (List.take (Try.prog.cellsOf 3) (List.drop 0 [v0, v1, v2, v3])) = some y0 := hf 0 _ rfl
    rw [c1] at h0
    have h1 : DataW.trod enc Try.prog w base spare held m 3 (List.take (Try.prog.cellsOf 3) (List.drop 1 [v0, v1, v2, v3])) = some y1 := hf 1 _ rfl
    rw [c1] at h1
    have h2 : DataW.trod enc Try.prog w base spare held m 33 (List.take (Try.prog.cellsOf 33) (List.drop 2 [v0, v1, v2, v3])) = some y2 := hf 2 _ rfl
    rw [c2] at h2
    have h4 : DataW.trod enc Try.prog w base spare held m 54 (List.take (Try.prog.cellsOf 54) (List.drop 3 [v0, v1, v2, v3])) = some y3 := hf 3 _ rfl
    rw [c4] at h4
    obtain ⟨k0, e0, _, _⟩ := DataW.trod_int Try.underlying3 h0
    obtain ⟨k1, e1, _, w1⟩ := DataW.trod_int Try.underlying3 h1
    obtain ⟨k2, e2, _, w2⟩ := DataW.trod_int Try.underlying33 h2
    obtain ⟨m2, rfl, hm2⟩ := wf_bounds_u32 w2
    obtain ⟨A4, n4, q4, us, e4, b1, b2, b3, b4, b5⟩ := rd_plain (cells := fun (k : Nat) => [Value.int .u32 (k : Int)]) (ok := fun k => k < 4294967296) (size := 1) Try.underlying54 (by kernel_rfl) (by decide)
      (fun n cs x h => by obtain ⟨k, rfl, _, hw⟩ := DataW.trod_int Try.underlying33 h; obtain ⟨s, rfl, hs⟩ := wf_bounds_u32 hw; exact ⟨s, rfl, hs⟩) h4
    obtain rfl : v0 = .int .i64 k0 := by simpa using e0
    obtain rfl : v1 = .int .i64 k1 := by simpa using e1
    obtain rfl : v2 = .int .u32 m2 := by simpa using e2
    obtain rfl : v3 = .slice A4 n4 q4 := by simpa using e4
    subst b3
    refine ⟨(⟨k0, k1, m2, us⟩, ⟨A4, q4⟩), rfl, ?_, b5, hm2, (bounds_i64 w1).2⟩
    have : wordsV us = us.flatMap (fun (k : Nat) => [Value.int .u32 (k : Int)]) := by
      unfold wordsV
      exact List.map_eq_flatMap
    rw [this]
    exact b4
theorem rd_sops {n : Nat} {cs : List Value} {x : DataW H × List MemPlace} (h : DataW.trod enc Try.prog w base spare held n 95 cs = some x) :
    ∃ (A : Option Addr) (c : Nat) (ms : List (SOp × SOpV)), cs = [.slice A ms.length c] ∧ SOpsAt w A ms := by
  obtain ⟨A, k, c, xs, rfl, h1, h2, h3, h4, h5⟩ := rd_plain (cells := sopCells) (ok := fun m => SOpAt w m) (size := 4) Try.underlying95 (by kernel_rfl) (by decide) (fun n cs x h => rd_sop h) h
  subst h3
  exact ⟨A, c, xs, rfl, h4, h5, Nat.le_trans h1 h2⟩
/-- A row of words as an argument. -/
structure WordsAt (w : World) (A : Option Addr) (l : List Nat) : Prop where
  rows : Reads w 1 A l.length (wordsV l)
  lt : ∀ y ∈ l, y < 4294967296
  len : l.length ≤ maxLen
theorem rd_words {n : Nat} {cs : List Value} {x : DataW H × List MemPlace} (h : DataW.trod enc Try.prog w base spare held n 54 cs = some x) :
    ∃ (A : Option Addr) (c : Nat) (l : List Nat), cs = [.slice A l.length c] ∧ WordsAt w A l := by
  obtain ⟨A4, n4, q4, us, e4, b1, b2, b3, b4, b5⟩ := rd_plain (cells := fun (k : Nat) => [Value.int .u32 (k : Int)]) (ok := fun k => k < 4294967296) (size := 1) Try.underlying54 (by kernel_rfl) (by decide)
      (fun n cs x h => by obtain ⟨k, rfl, _, hw⟩ := DataW.trod_int Try.underlying33 h; obtain ⟨s, rfl, hs⟩ := wf_bounds_u32 hw; exact ⟨s, rfl, hs⟩) h
  subst b3
  refine ⟨A4, q4, us, e4, ?_, b5, Nat.le_trans b1 b2⟩
  have : wordsV us = us.flatMap (fun (k : Nat) => [Value.int .u32 (k : Int)]) := by
    unfold wordsV
    exact List.map_eq_flatMap
  rw [this]
  exact b4
end
end Go.Proofs.Yteanpgkonhdbpaa


namespace Go.Proofs.Yteanpgkonhdbpaa
open Go.RowKit
set_option maxRecDepth 100000 in
set_option maxHeartbeats 1000000 in
theorem srow_any (A B : Option Addr) (c e : Nat) (la lb : List Nat) (w : World) (hA : Reads w 1 A la.length (wordsV la)) (hB : Reads w 1 B lb.length (wordsV lb)) (ha : la.length ≤ 100000) (hb : lb.length ≤ 100000) :
    Calls Try.prog 55 #[.slice A la.length c, .slice B lb.length e] w fun e w' => e = .returned (.bool (decide (la = lb))) ∧ Keep [] w w' := by
  by_cases hl : la.length = lb.length
  · have hln : ((la.length : Int) != (lb.length : Int)) = false := by simp; omega
    have HA : Hid (0 < la.length → ∃ b o, A = some ⟨b, o, none⟩ ∧ ∀ k, (hk : k < la.length) → ∀ W, Keep [] w W → W.cell? ⟨b, o + k, none⟩ = some (.int .u32 (la[k] : Int))) := fun h0 => by
      obtain ⟨b, o, e, hb, hc⟩ := hA.addr h0
      exact ⟨b, o, e, fun k hk W kk => (kk.cell (p := ⟨b, o + k, none⟩) hb (by simp)).trans (hc k _ (by rw [wordsV, List.getElem?_map, List.getElem?_eq_getElem hk]; rfl))⟩
    have HB : Hid (0 < lb.length → ∃ b o, B = some ⟨b, o, none⟩ ∧ ∀ k, (hk : k < lb.length) → ∀ W, Keep [] w W → W.cell? ⟨b, o + k, none⟩ = some (.int .u32 (lb[k] : Int))) := fun h0 => by
      obtain ⟨b, o, e, hb, hc⟩ := hB.addr h0
      exact ⟨b, o, e, fun k hk W kk => (kk.cell (p := ⟨b, o + k, none⟩) hb (by simp)).trans (hc k _ (by rw [wordsV, List.getElem?_map, List.getElem?_eq_getElem hk]; rfl))⟩
    have HL := Lib.hid hl
    clear hA hB
    go_enter Try.func55, Try.ntmps55
    clear hl
    go_wp2
    clear hln
    go_loopw [5] (fun vi wr => ∃ k : Nat, k ≤ la.length ∧ vi = .int .i64 (k : Int) ∧ la.take k = lb.take k ∧ Keep [] w wr) (fun vi _ => la.length - (intOf vi).toNat)
    case atStart => exact ⟨0, Nat.zero_le _, rfl, rfl, Keep.refl _ _⟩
    case round =>
      obtain ⟨k, hk, rfl, ht, hK⟩ := hrel
      by_cases hlt : k < la.length
      · have hl2 := HL.out
        have hlt2 : k < lb.length := by omega
        obtain ⟨b1, o1, hA1, hc1⟩ := HA.out (by omega)
        obtain ⟨b2, o2, hB1, hc2⟩ := HB.out (by omega)
        have HT1 : Hid (la.take (k + 1) = la.take k ++ [la[k]]) := by show _ = _; rw [List.take_succ_eq_append_getElem hlt]
        have HT2 : Hid (lb.take (k + 1) = lb.take k ++ [lb[k]]) := by show _ = _; rw [List.take_succ_eq_append_getElem hlt2]
        have HNE : Hid (la[k] ≠ lb[k] → la ≠ lb) := fun h e => h (by subst e; rfl)
        have hk0 : (0 : Int) ≤ (k : Int) := by omega
        have hk1 : (k : Int) < (la.length : Int) := by omega
        have hk2 : (k : Int) < (lb.length : Int) := by omega
        have hF : ∀ w', Keep [] wr w' → w'.cell? ⟨b1, o1 + k, none⟩ = some (.int .u32 (la[k] : Int)) ∧ w'.cell? ⟨b2, o2 + k, none⟩ = some (.int .u32 (lb[k] : Int)) := fun w' hk' => ⟨hc1 k hlt w' (hK.then hk'), hc2 k hlt2 w' (hK.then hk')⟩
        rw [hA1, hB1] at *
        clear hc1 hc2 hl2
        generalize la[k] = ya at *
        generalize lb[k] = yb at *
        go_wp2
        refine wp_region_flow (Keep [] wr) rfl (by kernel_rfl) (Keep.refl _ _).drew ?_
        repeat (refine fl_val (v := ?_) (by rfl) ?_ ?_; rotate_left; (intro w' hS; obtain ⟨f1,f2⟩ := hF w' hS; go_simp; with_reducible rfl); simp only [Act.put, List.setIfInBounds_toArray, List.set_cons_zero, List.set_cons_succ])
        refine fl_nil ?_
        intro w' hS
        clear hF
        by_cases he : ya = yb
        · have hn : ((ya : Int) != (yb : Int)) = false := by simp; omega
          go_wp2
          go_roundw
          case rel => exact ⟨k + 1, by omega, by go_num, by rw [HT1.out, HT2.out, ht, he], hK.then hS⟩
          case measure => simp [intOf] <;> omega
        · have hn : ((ya : Int) != (yb : Int)) = true := by simp; omega
          have HD : Hid (decide (la = lb) = false) := by show _ = _; exact decide_eq_false (HNE.out he)
          clear he
          go_wp2
          go_ret
          exact ⟨by rw [HD.out]; rfl, hK.then hS⟩
      · obtain rfl : k = la.length := by omega
        have HD : Hid (decide (la = lb) = true) := by
          show _ = _
          rw [List.take_length, List.take_of_length_le (by have := HL.out; omega)] at ht
          exact decide_eq_true ht
        clear ht
        go_wp2
        go_ret
        exact ⟨by rw [HD.out]; rfl, hK⟩
  · have hln : ((la.length : Int) != (lb.length : Int)) = true := by simp; omega
    have HD : Hid (decide (la = lb) = false) := by show _ = _; exact decide_eq_false (fun e => hl (by rw [e]))
    clear hl hA hB
    go_enter Try.func55, Try.ntmps55
    go_wp2
    go_ret
    exact ⟨by rw [HD.out]; rfl, Keep.refl _ _⟩
end Go.Proofs.Yteanpgkonhdbpaa
