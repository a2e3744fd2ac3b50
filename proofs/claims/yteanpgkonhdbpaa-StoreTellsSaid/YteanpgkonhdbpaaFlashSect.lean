/- The device's Sector, walked. -/
import Derived.Test.YteanpgkonhdbpaaFlashErase
import Derived.StillTailTactics
namespace Go.Proofs.Yteanpgkonhdbpaa
open Go.RowKit

def sectL (d : Dev) (σ : Nat) : List Nat := (d.bits.drop (σ * d.nw)).take d.nw
def sectS (d : Dev) (s : Int) : List Nat := if 0 ≤ s ∧ s < d.ns then sectL d s.toNat else []
theorem sect_hi (d : Dev) (ho : d.Ok) (σ : Nat) (h2 : σ < d.ns) : σ * d.nw + d.nw ≤ d.bits.length := by
  rw [ho.blen]
  have := Nat.mul_le_mul_right d.nw (show σ + 1 ≤ d.ns by omega)
  rw [Nat.add_mul, Nat.one_mul] at this
  exact this
theorem sectL_len (d : Dev) (ho : d.Ok) (σ : Nat) (h2 : σ < d.ns) : (sectL d σ).length = d.nw := by
  have := sect_hi d ho σ h2
  unfold sectL
  rw [List.length_take, List.length_drop]
  omega
theorem sectL_get (d : Dev) (σ k : Nat) (hk : k < d.nw) : (sectL d σ)[k]? = d.bits[σ * d.nw + k]? := by
  unfold sectL
  rw [List.getElem?_take, if_pos hk, List.getElem?_drop]

set_option maxRecDepth 100000 in
set_option maxHeartbeats 1000000 in
theorem fsector_any (g b1 b2 : Nat) (d : Dev) (s : Int) (w : World) (hd : DevAt w g b1 b2 d) (ho : d.Ok) :
    Calls Try.prog 39 #[.pointer (some ⟨g, 0, none⟩), .int .i64 s] w (RetWords w (sectS d s)) := by
  obtain ⟨c0, _, c2, c3, _⟩ := hd.cells
  have hns := ho.ns2
  have hnw := ho.nw2
  have hnw1 := ho.nw1
  rw [ho.wlen] at c3
  have hcase : s < 0 ∨ (0 ≤ s ∧ (d.ns : Int) ≤ s) ∨ (0 ≤ s ∧ s < d.ns) := by omega
  have HR0 : Hid (RetWords w [] (.returned (.slice none 0 0)) w) := (OwnW.nil w).ret
  rcases hcase with h1 | ⟨h1, h2⟩ | ⟨h1, h2⟩
  · have HS : Hid (sectS d s = []) := by show _ = _; unfold sectS; rw [if_neg (by omega)]
    rw [HS.out]
    clear hd ho
    go_enter Try.func39, Try.ntmps39
    go_wp2
    go_ret
    exact HR0.out
  · have HS : Hid (sectS d s = []) := by show _ = _; unfold sectS; rw [if_neg (by omega)]
    rw [HS.out]
    clear hd ho
    go_enter Try.func39, Try.ntmps39
    go_wp2
    go_ret
    exact HR0.out
  · obtain ⟨σ, rfl⟩ : ∃ σ : Nat, s = (σ : Int) := ⟨s.toNat, by omega⟩
    have HS : Hid (sectS d σ = sectL d σ) := by show _ = _; unfold sectS; rw [if_pos (by omega)]; rfl
    rw [HS.out]
    have hlo := sect_hi d ho σ (by omega)
    have hb6 := bits_le d ho
    have hl := sectL_len d ho σ (by omega)
    have hrd : ∀ W, Keep [] w W → Reads W 1 (some ⟨b1, σ * d.nw, none⟩) (sectL d σ).length (wordsV (sectL d σ)) := fun W hk => by
      refine ⟨by simp, fun hn => ⟨b1, σ * d.nw, rfl, (hd.bits.keep0 hk).lt, fun j u hu => ?_⟩⟩
      rw [(hd.bits.keep0 hk).cell]
      simp only [List.getElem?_map, Option.map_eq_some_iff] at hu
      obtain ⟨x, hx, rfl⟩ := hu
      have hj : j < d.nw := by
        have := (List.getElem?_eq_some_iff.1 hx).1
        omega
      rw [sectL_get d σ j hj] at hx
      simp [hx]
    have HRD := Lib.hid hrd
    have HL := Lib.hid hl
    have hw1 : IntKind.i64.wrap ((σ : Int) * d.nw) = ((σ * d.nw : Nat) : Int) := by rw [show (σ : Int) * d.nw = ((σ * d.nw : Nat) : Int) by rw [Int.natCast_mul]]; exact IntWalk.i64_in _ (by omega)
    have hw2 : IntKind.i64.wrap ((σ : Int) + 1) = (σ : Int) + 1 := IntWalk.i64_in _ (by omega)
    have hw3 : IntKind.i64.wrap (((σ : Int) + 1) * d.nw) = ((σ * d.nw + d.nw : Nat) : Int) := by rw [show ((σ : Int) + 1) * d.nw = ((σ * d.nw + d.nw : Nat) : Int) by rw [Int.add_mul, Int.natCast_add, Int.natCast_mul, Int.one_mul]]; exact IntWalk.i64_in _ (by omega)
    generalize hlo2 : σ * d.nw = lo at *
    have hl0 : (0 : Int) ≤ (lo : Int) := by omega
    have HHI : Hid (lo + d.nw - lo = d.nw) := by show _ = _; omega
    have hhi : lo + d.nw ≤ 65536 := by omega
    have hhj : lo < lo + d.nw := by omega
    generalize lo + d.nw = hi at *
    have hs1 : (lo : Int) ≤ (hi : Int) := by omega
    have hs2 : (hi : Int) ≤ (d.bits.length : Int) := by omega
    have hs3 : lo < d.bits.length := by omega
    have hs4 : (d.bits.length = lo) = False := eq_false (by omega)
    have hs5 : (lo = d.bits.length) = False := eq_false (by omega)
    clear hd ho hrd hl hlo2
    go_enter Try.func39, Try.ntmps39
    go_wp2
    go_still_tail 18, (by kernel_rfl)
    change wpList _ _ _ _ _ w.drew
    rw [HHI.out]
    have hrd2 : Reads w.drew 1 (some ⟨b1, lo, none⟩) d.nw (wordsV (sectL d σ)) := by rw [← HL.out]; exact HRD.out _ ((Keep.refl [] w).drew)
    have hone : ∀ u ∈ wordsV (sectL d σ), u.oneCell' = true := by intro u hu; obtain ⟨x, _, rfl⟩ := List.mem_map.1 hu; rfl
    refine wpList_append_reads rfl (.const (Value.slice none 0 0)) (.tmp 33) 54 rfl slice_u32 (World.ownsRow_nil w.drew w.heap.size 33 1) rfl hrd2 rfl hone (Nat.le_refl _) (by omega) (by unfold maxLen; omega) ?_
    intro v' w' hown hk _
    rw [Nat.zero_add, List.nil_append] at hown
    obtain ⟨A, c, rfl⟩ := own_shape hown
    have HF : Hid (RetWords w (sectL d σ) (.returned (.slice A d.nw c)) w') := by
      refine ⟨A, c, by rw [HL.out], by rw [HL.out]; exact hown, ((Keep.refl [] w).drew).trans hk (by simp [Value.ownBlock])⟩
    clear hown hk hrd2 hone
    go_wp2
    go_ret
    exact HF.out
end Go.Proofs.Yteanpgkonhdbpaa
