/- Uses as an iterator, walked. No condition. -/
import Derived.Test.YteflgdnekflbbaaDoorImgT
import Derived.Test.YteflgdnekflbbaaDoorIter
namespace Go.Proofs.YteflgdnekflbbaaDoor
open Go.RowKit
attribute [local go_sem] Oper.semAt_some

/-- What Uses goes through, of the first k resources. -/
def usesK (l : List Int) : Nat → List PII
  | 0 => []
  | k + 1 => usesK l k ++ (if 0 < l.getD k 0 then [((k : Int), l.getD k 0)] else [])
theorem usesK_le (l : List Int) : ∀ k, (usesK l k).length ≤ k
  | 0 => by simp [usesK]
  | k + 1 => by
    have := usesK_le l k
    rw [usesK, List.length_append]
    split <;> simp <;> omega
theorem usesK_prefix (l : List Int) {i j : Nat} (h : i ≤ j) : usesK l i <+: usesK l j := by
  induction j with
  | zero => obtain rfl : i = 0 := by omega
            exact List.prefix_refl _
  | succ j ih =>
    rcases Nat.lt_or_ge i (j + 1) with h1 | h1
    · exact (ih (by omega)).trans (by rw [usesK]; exact List.prefix_append _ _)
    · obtain rfl : i = j + 1 := by omega
      exact List.prefix_refl _

theorem uses_any (t : Tsk) (w : World) : Calls Tryd.prog 55 #[.agg (tskCells t).toArray] w fun e w' =>
    e = .returned (.func (.func 67) #[] #[.pointer (some ⟨w.heap.size, 0, none⟩)]) ∧ w.alloc (.cells (tskCells t).toArray 88) = w' := by
  generalize (tskCells t).toArray = cs
  go_enter Tryd.func55, Tryd.ntmps55
  go_wp2
  go_ret
  exact ⟨rfl, rfl⟩

set_option maxRecDepth 100000 in
set_option maxHeartbeats 1000000 in
theorem uses1_seq (n : Nat) (t : Tsk) (B : Nat) (w : World) (hB : B < w.heap.size) (hb : Blk w B 88 (tskCells t).toArray) (hl8 : t.lon.length = 8) :
    SeqP Fence.wide n Tryd.prog 67 #[.pointer (some ⟨B, 0, none⟩)] encPII (Same [B]) (usesK t.lon 8) w := by
  intro l0 J Jx W hW hJ hJx hY h0
  have hcW : Hid (CellsAt W B 3 (iv t.lon)) := by
    intro j u hu
    exact (hW.cell (p := ⟨B, 3 + j, none⟩) hB).trans ((tsk_lonAt hb) j u hu)
  have HL8 := Lib.hid hl8
  have HI := Lib.hid (fun k (hk : k < 8) v hv W => run_index_agg (P := Tryd.prog) (t := 86) (e := 3) (n := 8) (cs := (iv t.lon).toArray) (v := v) Tryd.underlying86 Tryd.underlying3 rfl (by kernel_rfl) k hk hv W)
  have HG : Hid (∀ k, k < 8 → (iv t.lon).toArray[k]? = some (.int .i64 (t.lon.getD k 0))) := fun k hk => by
    rw [List.getElem?_toArray, iv_get (by omega), List.getD_eq_getElem?_getD, List.getElem?_eq_getElem (by omega)]; rfl
  have hA : Hid (AggOf Tryd.prog 86 (iv t.lon).length) := by show AggOf _ _ _; rw [List.length_map, hl8]; exact agg_8
  clear hl8 hb
  generalize t.lon = lon at *
  refine callsIn_of_wp Tryd.func67 rfl trivial ?_ rfl
  simp only [Tryd.ntmps67, List.size_toArray, List.length_cons, List.length_nil, Nat.reduceAdd, Nat.reduceSub, Array.replicate_succ, Array.replicate_zero, List.push_toArray, List.append_toArray, List.nil_append, List.cons_append]
  gi_wp2_with (refine wpListIn_agg rfl 86 (.tmp 5) rfl rfl (cs := iv lon) hA.out hcW.out ?_)
  clear hcW hA
  generalize (iv lon).toArray = cs at *
  gi_loopw [7] (fun vi wr => ∃ k : Nat, k ≤ 8 ∧ vi = .int .i64 k ∧ J (usesK lon k) wr) (fun i _ => 8 - (intOf i).toNat)
  case atStart => exact ⟨0, Nat.zero_le _, rfl, h0⟩
  case round =>
    obtain ⟨k, hk, rfl, hJr⟩ := hrel
    by_cases hlt : k < 8
    · have hlen0 := usesK_le lon k
      have hpre := Lib.hid (usesK_prefix lon (show k + 1 ≤ 8 by omega))
      have hrun := fun W => HI.out k hlt _ (HG.out k hlt) W
      by_cases hc : 0 < lon.getD k 0
      · have hS : Hid (usesK lon (k + 1) = usesK lon k ++ [((k : Int), lon.getD k 0)]) := by show _ = _; rw [usesK, if_pos hc]
        have hlen : usesK lon k ++ [((k : Int), lon.getD k 0)] <+: usesK lon 8 := by rw [← hS.out]; exact hpre.out
        obtain ⟨fn, tmps, assign, body, hy, hR⟩ := hY (usesK lon k) ((k : Int), lon.getD k 0) wr hJr hlen
        dsimp only [encPII] at hy
        rw [← hS.out] at hR
        generalize lon.getD k 0 = c at *
        clear hlen hlen0
        gi_wp2
        refine ⟨fun h => (by cases h), hR.mono ?_⟩
        rintro e W3 (⟨rfl, hJ3, hk3⟩ | ⟨rfl, hJx3⟩)
        · gi_wp2
          go_roundw
          case rel => exact ⟨k + 1, by omega, by go_num, hJ3⟩
          case measure => simp [intOf] <;> omega
        · gi_wp2
          refine bodyPost_ret (results_none rfl _ _ _) rfl ?_
          exact ⟨⟨_, rfl⟩, .inr ⟨_, hpre.out, hJx3⟩⟩
      · have hS : Hid (usesK lon (k + 1) = usesK lon k) := by show _ = _; rw [usesK, if_neg hc, List.append_nil]
        have hx0 : lon.getD k 0 ≤ 0 := by omega
        generalize lon.getD k 0 = x at *
        clear hc
        gi_wp2
        refine ⟨fun f h => (by cases h), ?_⟩
        gi_wp2
        go_roundw
        case rel => exact ⟨k + 1, by omega, by go_num, by rw [hS.out]; exact hJr⟩
        case measure => simp [intOf] <;> omega
    · obtain rfl : k = 8 := by omega
      gi_wp2
      go_end0
      exact ⟨⟨_, rfl⟩, .inl hJr⟩

end Go.Proofs.YteflgdnekflbbaaDoor
