/- The steps of a flash device as one contract each, and that each step keeps a device well. -/
import Derived.Test.YteanpgkonhdbpaaRefErase2
namespace Go.Proofs.Yteanpgkonhdbpaa
open Go.RowKit

theorem ferase_any (g b1 b2 : Nat) (d : Dev) (s : Int) (w : World) (hd : DevAt w g b1 b2 d) (ho : d.Ok) :
    Calls Try.prog 100 #[.pointer (some ⟨g, 0, none⟩), .int .i64 s] w (Leaves w g b1 b2 (eraseS d s).1 (eraseS d s).2) := by
  by_cases h : d.on = false ∨ ¬ (0 ≤ s ∧ s < d.ns) ∨ d.lim ≤ d.worn.getD s.toNat 0
  · exact ferase_no g b1 b2 d s w hd ho h
  · have h1 : d.on = true := by cases hon : d.on <;> simp_all
    have h2 : 0 ≤ s ∧ s < d.ns := Classical.byContradiction fun e => h (.inr (.inl e))
    have h3 : d.worn.getD s.toNat 0 < d.lim := Nat.lt_of_not_le fun e => h (.inr (.inr e))
    obtain ⟨σ, rfl⟩ : ∃ σ : Nat, s = (σ : Int) := ⟨s.toNat, by omega⟩
    exact ferase_yes g b1 b2 d σ w hd ho h1 (by omega) h3
section
variable (base : Nat) (F : List Nat) (A1 A2 : Option Addr) (c1 c2 : Nat) (d : Dev) (w : World) (hr : ROwn base F w A1 A2 c1 c2 d) (ho : d.Ok) (hF : ∀ x ∈ F, x < w.heap.size) (hbase : base ≤ w.heap.size)
include hr ho hF hbase
theorem rprog_any (s q : Int) (v : Nat) (hv : v < 4294967296) :
    Calls Try.prog 119 #[.agg (refV d A1 A2 c1 c2).toArray, .int .i64 s, .int .i64 q, .int .u32 (v : Int)] w (RetRef base F w (progS d s q v).1 (progS d s q v).2) := by
  by_cases h : d.on = false ∨ isS d s q = false ∨ v ||| d.bits.getD (atS d s q) 0 ≠ d.bits.getD (atS d s q) 0
  · exact rprog_no base F A1 A2 c1 c2 d s q v w hr ho hv h
  · have h1 : d.on = true := by cases hon : d.on <;> simp_all
    have h2 : isS d s q = true := by cases hi : isS d s q <;> simp_all
    exact rprog_yes base F A1 A2 c1 c2 d s q v w hr ho hv hF hbase h1 h2 (Classical.byContradiction fun e => h (.inr (.inr e)))
theorem rerase_any (s : Int) :
    Calls Try.prog 120 #[.agg (refV d A1 A2 c1 c2).toArray, .int .i64 s] w (RetRef base F w (eraseS d s).1 (eraseS d s).2) := by
  by_cases h : d.on = false ∨ ¬ (0 ≤ s ∧ s < d.ns) ∨ d.lim ≤ d.worn.getD s.toNat 0
  · exact rerase_no base F A1 A2 c1 c2 d s w hr ho h
  · have h1 : d.on = true := by cases hon : d.on <;> simp_all
    have h2 : 0 ≤ s ∧ s < d.ns := Classical.byContradiction fun e => h (.inr (.inl e))
    have h3 : d.worn.getD s.toNat 0 < d.lim := Nat.lt_of_not_le fun e => h (.inr (.inr e))
    obtain ⟨σ, rfl⟩ : ∃ σ : Nat, s = (σ : Int) := ⟨s.toNat, by omega⟩
    exact rerase_yes base F A1 A2 c1 c2 d σ w hr ho hF hbase h1 (by omega) h3
end

theorem eraseBits_lt (t : Bool) (sd : Nat) (l : List Nat) (b : Nat) (hl : ∀ x ∈ l, x < 4294967296) (hs : sd < 4294967296) : ∀ k, ∀ x ∈ eraseBits t sd l b k, x < 4294967296
  | 0 => hl
  | k + 1 => fun x hx => by
    rw [eraseBits] at hx
    rcases List.mem_or_eq_of_mem_set hx with h | h
    · exact eraseBits_lt t sd l b hl hs k x h
    · rw [h]
      split
      · refine Nat.or_lt_two_pow (n := 32) ?_ (mSeq_lt (by omega) k)
        rcases Nat.lt_or_ge (b + k) l.length with hi | hi
        · rw [List.getD_eq_getElem?_getD, List.getElem?_eq_getElem hi]
          exact hl _ (List.getElem_mem hi)
        · rw [List.getD_eq_getElem?_getD, List.getElem?_eq_none hi]; decide
      · decide
theorem progS_ok {d : Dev} (h : d.Ok) (s q : Int) (v : Nat) (hv : v < 4294967296) : (progS d s q v).1.Ok := by
  unfold progS
  split
  · exact h
  · split
    · exact h
    · dsimp only
      split
      · exact h
      · split
        · have e := (goes_same d).1
          have := h.goes.setBit (atS d s q) (d.bits.getD (atS d s q) 0 &&& (v ||| max d.seed 1)) (Nat.lt_of_le_of_lt Nat.and_le_left (bit_lt d h _))
          rw [e] at this
          exact this
        · have e := (goes_same d).1
          have := h.goes.setBit (atS d s q) v hv
          rw [e] at this
          exact this
theorem wornD_ok {d : Dev} (h : d.Ok) (σ : Nat) (hx : d.worn.getD σ 0 < d.lim) : (wornD d σ).Ok :=
  ⟨h.ns1, h.ns2, h.nw1, h.nw2, h.lim2, h.blen, by show (d.worn.set σ _).length = _; rw [List.length_set]; exact h.wlen, h.bit, fun y hy => by
    rcases List.mem_or_eq_of_mem_set hy with h' | h'
    · exact h.wear y h'
    · rw [h']; exact hx, h.seed2, h.left2⟩
theorem eraseS_ok {d : Dev} (h : d.Ok) (s : Int) : (eraseS d s).1.Ok := by
  by_cases hn : d.on = false ∨ ¬ (0 ≤ s ∧ s < d.ns) ∨ d.lim ≤ d.worn.getD s.toNat 0
  · unfold eraseS
    split
    · exact h
    · split
      · exact h
      · split
        · exact h
        · rename_i a1 a2 a3
          exact absurd hn (by rintro (e | e | e); exact a1 e; exact a2 e; exact a3 e)
  · have h1 : d.on = true := by cases hon : d.on <;> simp_all
    have h2 : 0 ≤ s ∧ s < d.ns := Classical.byContradiction fun e => hn (.inr (.inl e))
    have h3 : d.worn.getD s.toNat 0 < d.lim := Nat.lt_of_not_le fun e => hn (.inr (.inr e))
    obtain ⟨σ, rfl⟩ : ∃ σ : Nat, s = (σ : Int) := ⟨s.toNat, by omega⟩
    rw [eraseS_yes d σ h1 (by omega) h3]
    have hw := (wornD_ok h σ h3).goes
    obtain ⟨e1, e2, e3, e4, e5, e6, e7⟩ := goes_same (wornD d σ)
    refine ⟨hw.ns1, hw.ns2, hw.nw1, hw.nw2, hw.lim2, ?_, hw.wlen, eraseBits_lt _ _ _ _ h.bit h.seed2 _, hw.wear, hw.seed2, hw.left2⟩
    show (eraseBits _ _ _ _ _).length = _
    rw [eraseBits_len, e4, e5]
    exact h.blen
theorem armS_ok {d : Dev} (h : d.Ok) (n : Int) (s : Nat) (hs : s < 4294967296) (hn : n ≤ 9223372036854775807) : (armS d n s).Ok :=
  ⟨h.ns1, h.ns2, h.nw1, h.nw2, h.lim2, h.blen, h.wlen, h.bit, h.wear, hs, by show n.toNat ≤ _; omega⟩
theorem powerS_ok {d : Dev} (h : d.Ok) (b : Bool) : (powerS d b).Ok := ⟨h.ns1, h.ns2, h.nw1, h.nw2, h.lim2, h.blen, h.wlen, h.bit, h.wear, h.seed2, h.left2⟩
theorem newD_ok (s n l : Nat) (h1 : 1 ≤ s) (h2 : s ≤ 64) (h3 : 1 ≤ n) (h4 : n ≤ 1024) (h6 : l ≤ 1048576) : (newD s n l).Ok :=
  ⟨h1, h2, h3, h4, h6, by simp [newD], by simp [newD], fun x hx => by simp [newD] at hx; omega, fun x hx => by simp [newD] at hx; omega, by simp [newD], by simp [newD]⟩

/-- A call of the law: kind, sector, word, bits. -/
structure FOp where
  kind : Int
  sector : Int
  word : Int
  w : Nat
abbrev fopCells (o : FOp) : List Value := [.int .i64 o.kind, .int .i64 o.sector, .int .i64 o.word, .int .u32 (o.w : Int)]
def kindM (k : Int) : Int := (k.tmod 8 + 8).tmod 8
def doS (d : Dev) (o : FOp) : Dev :=
  if kindM o.kind = 4 then (eraseS d o.sector).1 else if kindM o.kind = 5 then armS d o.word o.w else if kindM o.kind = 6 then powerS d true else if kindM o.kind = 7 then powerS d false
  else (progS d o.sector o.word o.w).1
theorem kindM_range (k : Int) : 0 ≤ kindM k ∧ kindM k ≤ 7 := by
  unfold kindM
  have h1 : -8 < k.tmod 8 := Int.lt_tmod_of_pos k (by decide)
  have h2 : k.tmod 8 < 8 := Int.tmod_lt_of_pos k (by decide)
  rw [Int.tmod_eq_emod_of_nonneg (by omega)]
  omega
theorem doS_ok {d : Dev} (h : d.Ok) (o : FOp) (hw : o.w < 4294967296) (hq : o.word ≤ 9223372036854775807) : (doS d o).Ok := by
  unfold doS
  split
  · exact eraseS_ok h _
  · split
    · exact armS_ok h _ _ hw hq
    · split
      · exact powerS_ok h _
      · split
        · exact powerS_ok h _
        · exact progS_ok h _ _ _ hw
end Go.Proofs.Yteanpgkonhdbpaa
