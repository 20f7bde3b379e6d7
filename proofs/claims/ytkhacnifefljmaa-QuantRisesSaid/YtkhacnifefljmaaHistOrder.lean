/- The walk of the statement on the order of runtimes. -/
import Derived.Test.YtkhacnifefljmaaHistLaws
import Derived.Test.YtkhacnifefljmaaHistFold
set_option linter.unusedVariables false
namespace Go.Proofs.Ytkhacnifefljmaa
open Go.RowKit
open HistLaw

/-- A slice of numbers that came in. -/
def IsNums (k : IntKind) (w : World) (v : Value) (zs : List Int) : Prop :=
  ∃ (a : Option Addr) (cap : Nat), v = .slice a zs.length cap ∧ zs.length ≤ maxLen ∧ (∀ i, i < zs.length → ∃ b off, a = some ⟨b, off, none⟩ ∧ w.cell? ⟨b, off + i, none⟩ = some (.int k (zs.getD i 0)))

theorem nought_zeros : nought = zeros := rfl

set_option maxRecDepth 100000 in
set_option maxHeartbeats 1000000 in
theorem histOrder_walk (l : List Nat) (hb : ∀ n ∈ l, n < 18446744073709551616) (v : Value) (w : World) (hv : IsNums .u64 w v (l.map Int.ofNat)) :
    Calls Try.prog 5 #[v] w fun e w' => e = .returned (.bool true) ∧ Below w.heap.size w w' := by
  obtain ⟨a, cap, rfl, hmax, hcells0⟩ := hv
  rw [List.length_map] at *
  unfold maxLen at hmax
  by_cases h300 : 300 < l.length
  · go_enter Try.func5, Try.ntmps5
    go_wp2_with (go_at_call 13; refine (live10_any _).mono ?_; rintro e w1 ⟨rfl, hbe⟩)
    go_ret
    exact ⟨rfl, hbe⟩
  have HC := Lib.hid hcells0
  have HB := Lib.hid hb
  clear hcells0 hb
  go_enter Try.func5, Try.ntmps5
  go_wp2_with fail
  have hA0 : ((w.alloc (.cells (hcells nought) 28)).alloc (.cells (hcells nought) 28)).heap[w.heap.size]? = some (.cells (hcells nought) 28 (0, 0)) := heap_alloc2_old w _ _
  have hB0 : ((w.alloc (.cells (hcells nought) 28)).alloc (.cells (hcells nought) 28)).heap[w.heap.size + 1]? = some (.cells (hcells nought) 28 (0, 0)) := heap_alloc2_new w _ _
  have hW0 : Below w.heap.size w ((w.alloc (.cells (hcells nought) 28)).alloc (.cells (hcells nought) 28)) := ((Below.refl _ _).alloc (Nat.le_refl _) _).alloc (by simp) _
  rw [nought_zeros, hcells_zeros] at hA0 hB0 hW0
  go_loopw [5] (fun i wr => ∃ k : Nat, k ≤ l.length ∧ i = .int .i64 k ∧ wr.heap[w.heap.size]? = some (.cells (hcells (fold (l.take k))) 28 (0, 0)) ∧ wr.heap[w.heap.size + 1]? = some (.cells (hcells (fold (l.reverse.take k))) 28 (0, 0)) ∧ Below w.heap.size w wr) (fun i _ => l.length - (intOf i).toNat)
  case atStart => exact ⟨0, by omega, rfl, hA0, hB0, hW0⟩
  case round =>
    clear hA0 hB0 hW0
    obtain ⟨k, hk, rfl, hA, hB, hW⟩ := hrel
    by_cases hlt : k < l.length
    · obtain ⟨b, off, rfl, hc1⟩ := HC.out k hlt
      obtain ⟨b', off', hab, hc2⟩ := HC.out (l.length - 1 - k) (by omega)
      simp only [Option.some.injEq, Addr.mk.injEq, and_true] at hab
      obtain ⟨rfl, rfl⟩ := hab
      have e1 : (l.map Int.ofNat).getD k 0 = ((l[k] : Nat) : Int) := by simp [hlt]
      have e2 : (l.map Int.ofNat).getD (l.length - 1 - k) 0 = ((l[l.length - 1 - k]'(by omega) : Nat) : Int) := by simp [show l.length - 1 - k < l.length by omega]
      rw [e1] at hc1
      rw [e2] at hc2
      have b1 := HB.out _ (List.getElem_mem hlt)
      have b2 := HB.out _ (List.getElem_mem (show l.length - 1 - k < l.length by omega))
      have F1 := Lib.hid (fold_take l k hlt)
      have F2 := Lib.hid (fold_take_rev l k hlt)
      generalize l[k] = x1 at hc1 b1 F1
      generalize l[l.length - 1 - k]'(by omega) = x2 at hc2 b2 F2
      clear e1 e2
      have hbb : b < w.heap.size := World.block_lt_of_cell? w _ hc1
      have hc1r : wr.cell? ⟨b, off + k, none⟩ = some (.int .u64 (x1 : Int)) := (hW.cell hbb).trans hc1
      have hc2r : wr.cell? ⟨b, off + (l.length - 1 - k), none⟩ = some (.int .u64 (x2 : Int)) := (hW.cell hbb).trans hc2
      have HA := Lib.hid (fun (w' : World) (hx : ∃ x : Later wr, w' = x.w) => (show w'.heap[w.heap.size]? = some (.cells (hcells (fold (l.take k))) 28 (0, 0)) from by obtain ⟨x, rfl⟩ := hx; exact x.block hA))
      have HCC := fun (x : Later wr) => x.cell hc1r
      have hkI : (0 : Int) ≤ (k : Int) := by omega
      have hkL : (k : Int) < (l.length : Int) := by omega
      clear hc1 hc2
      go_wp2_with fail
      refine wp_region_later_tail 6 (by kernel_rfl) (by kernel_rfl) (Below.refl _ _) ?_
      simp only [List.take_succ_cons, List.take_zero, List.drop_succ_cons, List.drop_zero]
      repeat (first
        | go_big_quiet_skip
        | (go_big_quiet_want; first
          | (refine quiet_load_row 28 _ rfl w.heap.size rfl 28 (hcells (fold (l.take k))) (0, 0) _ HA.out histU rfl (histRow (fold_length _)) ?_; simp only [Act.put, List.setIfInBounds_toArray, List.set_cons_succ, List.set_cons_zero]; go_big_quiet_on)
          | (go_big_quiet_op; first | go_big_quiet_on | go_big_quiet_call ((go_at_call 14; exact Calls.later (add_any _ (fold_length _) _ (by omega) _))))))
      refine wpQuiet_nil ?_
      rintro ⟨W2, hb2⟩
      dsimp only
      have hA2 := kept hb2 hA
      have hB2 := kept hb2 hB
      have hW2 := bthen hW hb2
      have hc2s : W2.cell? ⟨b, off + (l.length - 1 - k), none⟩ = some (.int .u64 (x2 : Int)) := by rw [hb2.cell (by have := hW.size; simp; omega)]; exact hc2r
      clear hA hB hW hb2 HA HCC hc1r hc2r
      rw [← F1.out]
      have hl1 := hcells_size (fold (l.take (k + 1)))
      have hl0 := hcells_size (fold (l.take k))
      go_wp2_with (refine wpList_store_row rfl 28 _ _ rfl w.heap.size (hcells (fold (l.take (k + 1)))) rfl rfl 28 (hcells (fold (l.take k))) (by assumption) (histRow (fold_length _)) (by rw [hl1, hl0, fold_length, fold_length]) (hcells_one _) ?_)
      simp only [Act.put]
      have hA3 := setRow_heap _ _ _ (hcells (fold (l.take (k + 1)))) _ _ hA2
      have hB3 : (W2.setRow w.heap.size (hcells (fold (l.take (k + 1))))).heap[w.heap.size + 1]? = _ := (setRow_other W2 w.heap.size (w.heap.size + 1) _ (by omega)).trans hB2
      have hW3 := below_row hW2 (Nat.le_refl _) (hcells (fold (l.take (k + 1))))
      have hc3 : (W2.setRow w.heap.size (hcells (fold (l.take (k + 1))))).cell? ⟨b, off + (l.length - 1 - k), none⟩ = some (.int .u64 (x2 : Int)) := (cell_setRow_other W2 _ _ _ (by simp; omega)).trans hc2s
      generalize W2.setRow w.heap.size (hcells (fold (l.take (k + 1)))) = W4 at hA3 hB3 hW3 hc3 ⊢
      clear hA2 hB2 hW2 hc2s hl1 hl0
      have HA := Lib.hid (fun (w' : World) (hx : ∃ x : Later W4, w' = x.w) => (show w'.heap[w.heap.size + 1]? = some (.cells (hcells (fold (l.reverse.take k))) 28 (0, 0)) from by obtain ⟨x, rfl⟩ := hx; exact x.block hB3))
      have HCC := fun (x : Later W4) => x.cell hc3
      have hIx1 : (0 : Int) ≤ (l.length : Int) - 1 - (k : Int) := by omega
      have hIx2 : (l.length : Int) - 1 - (k : Int) < (l.length : Int) := by omega
      have hIx3 : ((l.length : Int) - 1 - (k : Int)).toNat = l.length - 1 - k := by omega
      refine wp_region_later_tail 10 (by kernel_rfl) (by kernel_rfl) (Below.refl _ _) ?_
      simp only [List.take_succ_cons, List.take_zero, List.drop_succ_cons, List.drop_zero]
      repeat (first
        | go_big_quiet_skip
        | (go_big_quiet_want; first
          | (refine quiet_load_row 28 _ rfl (w.heap.size + 1) rfl 28 (hcells (fold (l.reverse.take k))) (0, 0) _ HA.out histU rfl (histRow (fold_length _)) ?_; simp only [Act.put, List.setIfInBounds_toArray, List.set_cons_succ, List.set_cons_zero]; go_big_quiet_on)
          | (go_big_quiet_op; first | go_big_quiet_on | go_big_quiet_call ((go_at_call 14; exact Calls.later (add_any _ (fold_length _) _ (by omega) _))))))
      refine wpQuiet_nil ?_
      rintro ⟨W5, hb5⟩
      dsimp only
      have hA5 := kept hb5 hA3
      have hB5 := kept hb5 hB3
      have hW5 := bthen hW3 hb5
      clear hA3 hB3 hW3 hb5 HA HCC hc3
      rw [← F2.out]
      have hl1 := hcells_size (fold (l.reverse.take (k + 1)))
      have hl0 := hcells_size (fold (l.reverse.take k))
      go_wp2_with (refine wpList_store_row rfl 28 _ _ rfl (w.heap.size + 1) (hcells (fold (l.reverse.take (k + 1)))) rfl rfl 28 (hcells (fold (l.reverse.take k))) (by assumption) (histRow (fold_length _)) (by rw [hl1, hl0, fold_length, fold_length]) (hcells_one _) ?_)
      go_roundw
      case rel => exact ⟨k + 1, by omega, by go_num, (setRow_other W5 (w.heap.size + 1) w.heap.size _ (by omega)).trans hA5, setRow_heap _ _ _ _ _ _ hB5, below_row hW5 (by omega) _⟩
      case measure => simp [intOf]; omega
    · obtain rfl : k = l.length := by omega
      rw [List.take_length] at hA
      rw [show l.reverse.take l.length = l.reverse from by rw [← List.length_reverse]; exact List.take_length] at hB
      have hFR := fold_right _ l rfl
      have hFL := fold_length l
      by_cases h64 : 64 < l.length
      · have hpos : 0 < tw (fold l) := by have := fold_pos l (by intro h; subst h; simp at h64); omega
        go_wp2_with (first | (refine wl_load_row rfl 28 _ rfl w.heap.size rfl 28 (hcells (fold l)) (0, 0) _ (by assumption) histU rfl (histRow hFL) ?_) | (go_at_call 15; refine (right_any _ hFL _).mono ?_; rintro e w5 ⟨rfl, hb5⟩; have hX5 := kept hb5 hA; have hW5 := bthen hW hb5; clear hb5 hA) | (go_at_call 18; refine (total_any _ hFL _).mono ?_; rintro e w6 ⟨rfl, hb6⟩; have hW6 := bthen hW5 hb6; clear hb6) | (go_at_call 13; refine (live10_any _).mono ?_; rintro e w7 ⟨rfl, hb7⟩; have hW7 := bthen hW6 hb7; clear hb7))
        go_ret
        exact ⟨rfl, hW7⟩
      · rw [fold_reverse l (by omega)] at hB
        have hT := fold_total l (by omega)
        have hsame := hist_same (fold l) hFL
        have hguard := histGuard
        have hTb : (tw (fold l) == (l.length : Int)) = true := by rw [hT]; simp
        clear hT
        go_wp2_with (first | (refine wl_load_row rfl 28 _ rfl w.heap.size rfl 28 (hcells (fold l)) (0, 0) _ (by assumption) histU rfl (histRow hFL) ?_) | (refine wl_load_row rfl 28 _ rfl (w.heap.size + 1) rfl 28 (hcells (fold l)) (0, 0) _ (by assumption) histU rfl (histRow hFL) ?_) | (go_at_call 18; refine (total_any _ hFL _).mono ?_; rintro e w6 ⟨rfl, hb6⟩; have hW6 := bthen hW hb6; clear hb6) | (go_at_call 13; refine (live10_any _).mono ?_; rintro e w7 ⟨rfl, hb7⟩; have hW7 := bthen hW6 hb7; clear hb7))
        go_ret
        exact ⟨rfl, hW7⟩
end Go.Proofs.Ytkhacnifefljmaa
