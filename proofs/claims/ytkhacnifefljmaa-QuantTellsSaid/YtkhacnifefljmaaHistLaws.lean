/- The walks of the statements on histograms. -/
import Derived.Test.YtkhacnifefljmaaHistWalks3
import Derived.Test.YtkhacnifefljmaaBase
import Derived.Deep.WholeRow
import Derived.Test.YtkhacnifefljmaaHistEq
import Derived.OpenShut
set_option linter.unusedVariables false
namespace Go.Proofs.Ytkhacnifefljmaa
open Go.RowKit
open HistLaw

theorem bucket_at (x : Int) (w : World) (h0 : 0 ≤ x) (h1 : x ≤ 18446744073709551615) :
    Calls Try.prog 9 #[.int .u64 x] w fun e w' => e = .returned (.int .i64 (buck x.toNat)) ∧ w = w' := by
  obtain ⟨n, rfl⟩ := Int.eq_ofNat_of_zero_le h0
  rw [Int.toNat_natCast]
  exact bucket_any n w (by omega)

theorem refBucket_at (x : Int) (w : World) (h0 : 0 ≤ x) (h1 : x ≤ 18446744073709551615) :
    Calls Try.prog 10 #[.int .u64 x] w fun e w' => e = .returned (.int .i64 (buck x.toNat)) ∧ w = w' := by
  obtain ⟨n, rfl⟩ := Int.eq_ofNat_of_zero_le h0
  rw [Int.toNat_natCast]
  exact refBucket_any n w (by omega)

theorem add_at (h : List Int) (hl : h.length = 16) (x : Int) (w : World) (h0 : 0 ≤ x) (h1 : x ≤ 18446744073709551615) :
    Calls Try.prog 14 #[.agg (hcells h), .int .u64 x] w fun e w' => e = .returned (.agg (hcells (addH h x.toNat))) ∧ Below w.heap.size w w' := by
  obtain ⟨n, rfl⟩ := Int.eq_ofNat_of_zero_le h0
  rw [Int.toNat_natCast]
  exact add_any h hl n (by omega) w

theorem refAdd_at (h : List Int) (hl : h.length = 16) (x : Int) (w : World) (h0 : 0 ≤ x) (h1 : x ≤ 18446744073709551615) :
    Calls Try.prog 17 #[.agg (hcells h), .int .u64 x] w fun e w' => e = .returned (.agg (hcells (addH h x.toNat))) ∧ Below w.heap.size w w' := by
  obtain ⟨n, rfl⟩ := Int.eq_ofNat_of_zero_le h0
  rw [Int.toNat_natCast]
  exact refAdd_any h hl n (by omega) w

/-- The example's numbers. -/
theorem ex1 : ((buck (3 : Int).toNat : Nat) : Int) = 2 := by decide +kernel
theorem ex2 : ((buck (4 : Int).toNat : Nat) : Int) = 3 := by decide +kernel
theorem ex5 : tw (addH zeros (9 : Int).toNat) = 1 := by decide +kernel

theorem ex4 : (highv 15 == 18446744073709551615) = true := by decide +kernel
set_option maxRecDepth 100000 in
set_option maxHeartbeats 400000 in
theorem live10_any (w : World) : Calls Try.prog 13 #[] w fun e w' => e = .returned (.bool true) ∧ Below w.heap.size w w' := by
  have e1 := ex1
  have e2 := ex2
  have e3 : highv 3 = 7 := by decide +kernel
  have e4 := ex4
  have e5 := ex5
  go_enter Try.func13, Try.ntmps13
  go_wp2_with (first | (go_at_call 9; refine (bucket_at _ _ (by omega) (by omega)).mono ?_; rintro e w' ⟨rfl, rfl⟩) | (go_at_call 11; refine (high_any _ _ (by omega) (by omega)).mono ?_; rintro e w' ⟨rfl, rfl⟩) | (go_at_call 14; rw [← hcells_zeros]; refine (add_at zeros rfl _ _ (by omega) (by omega)).mono ?_; rintro e w1 ⟨rfl, hb1⟩) | (go_at_call 18; refine (total_any _ (addH_length _ _ rfl) _).mono ?_; rintro e w2 ⟨rfl, hb2⟩))
  go_ret
  exact ⟨rfl, bthen hb1 hb2⟩

set_option maxRecDepth 100000 in
set_option maxHeartbeats 400000 in
theorem histBuckets_walk (v : Nat) (b : Int) (w : World) (hv : v < 18446744073709551616) (hb0 : -9223372036854775808 ≤ b) (hb1 : b ≤ 9223372036854775807) :
    Calls Try.prog 3 #[.int .u64 v, .int .i64 b] w fun e w' => e = .returned (.bool true) ∧ Below w.heap.size w w' := by
  obtain ⟨h1, h2⟩ := buck_high v (by omega)
  have hk := buck_le v
  by_cases h0 : buck v = 0
  · have hz : ((buck v : Nat) : Int) = 0 := by omega
    have hzb : (((buck v : Nat) : Int) == 0) = true := by simp [h0]
    clear h2 h0 hz
    go_enter Try.func3, Try.ntmps3
    go_wp2_with (first | (go_at_call 9; refine (bucket_any v _ hv).mono ?_; rintro e w' ⟨rfl, rfl⟩) | (go_at_call 10; refine (refBucket_any v _ hv).mono ?_; rintro e w' ⟨rfl, rfl⟩) | (go_at_call 11; refine (high_any _ _ (by omega) (by omega)).mono ?_; rintro e w' ⟨rfl, rfl⟩) | (go_at_call 12; refine (refHigh_any _ _ (by omega) (by omega)).mono ?_; rintro e w' ⟨rfl, rfl⟩) | (go_at_call 13; refine (live10_any _).mono ?_; rintro e w1 ⟨rfl, hbe⟩))
    go_ret
    exact ⟨rfl, hbe⟩
  · have h3 : highv ((buck v : Int) - 1) < v := by rcases h2 with h | h; exact absurd h h0; exact h
    have hzb : (((buck v : Nat) : Int) == 0) = false := by simp; omega
    have hpos : (1 : Int) ≤ (buck v : Nat) := by omega
    clear h2 h0
    go_enter Try.func3, Try.ntmps3
    go_wp2_with (first | (go_at_call 9; refine (bucket_any v _ hv).mono ?_; rintro e w' ⟨rfl, rfl⟩) | (go_at_call 10; refine (refBucket_any v _ hv).mono ?_; rintro e w' ⟨rfl, rfl⟩) | (go_at_call 11; refine (high_any _ _ (by omega) (by omega)).mono ?_; rintro e w' ⟨rfl, rfl⟩) | (go_at_call 12; refine (refHigh_any _ _ (by omega) (by omega)).mono ?_; rintro e w' ⟨rfl, rfl⟩) | (go_at_call 13; refine (live10_any _).mono ?_; rintro e w1 ⟨rfl, hbe⟩))
    go_ret
    exact ⟨rfl, hbe⟩

theorem histBuckets_of (a0 a1 : Int) (W : World) (w0 : (Lit.int .u64 a0).wf = true) (w1 : (Lit.int .i64 a1).wf = true) :
    Calls Try.prog 3 #[.int .u64 a0, .int .i64 a1] W fun e w' => e = .returned (.bool true) ∧ Below W.heap.size W w' := by
  have b0 := bounds_u64 w0
  have b1 := bounds_i64 w1
  obtain ⟨n, rfl⟩ := Int.eq_ofNat_of_zero_le b0.1
  exact histBuckets_walk n a1 W (by omega) b1.1 b1.2

/-! ### HistAdds -/
def inB (x : Int) : Prop := -1125899906842624 ≤ x ∧ x ≤ 1125899906842624

set_option maxRecDepth 100000 in
set_option maxHeartbeats 1000000 in
theorem histAdds_walk (h : List Int) (hl : h.length = 16) (v : Int) (w : World) (hv0 : 0 ≤ v) (hv1 : v ≤ 18446744073709551615) :
    Calls Try.prog 4 #[.agg (hcells h), .int .u64 v] w fun e w' => e = .returned (.bool true) ∧ Below w.heap.size w w' := by
  have hc := fun k hk => box_cell h k hk w
  go_enter Try.func4, Try.ntmps4
  go_wp2
  go_loop [5] (fun i => ∃ k : Nat, k ≤ 16 ∧ i = .int .i64 k) (fun i => 16 - (intOf i).toNat)
  case atStart => exact ⟨0, by omega, rfl⟩
  case round =>
    obtain ⟨k, hk, rfl⟩ := hrel
    by_cases hlt : k < 16
    · have hk1 := hc k (by omega)
      clear hc
      by_cases h0 : nth h k < -1125899906842624
      · go_wp2_with (go_at_call 13; refine (live10_any _).mono ?_; rintro e w1 ⟨rfl, hbe⟩)
        go_ret
        exact ⟨rfl, ((Below.refl _ _).alloc (Nat.le_refl _) _).trans (hbe.mono (by simp))⟩
      by_cases h1 : 1125899906842624 < nth h k
      · go_wp2_with (go_at_call 13; refine (live10_any _).mono ?_; rintro e w1 ⟨rfl, hbe⟩)
        go_ret
        exact ⟨rfl, ((Below.refl _ _).alloc (Nat.le_refl _) _).trans (hbe.mono (by simp))⟩
      go_wp2
      go_round
      case rel => exact ⟨k + 1, by omega, by go_num⟩
      case measure => simp [intOf]; omega
    · clear hc
      have hAL := addH_length h v.toNat hl
      have hS := hcells_size (addH h v.toNat)
      go_wp2_with (first | (refine wl_load_row rfl 28 _ rfl w.heap.size rfl 28 (hcells h) (0, 0) _ (by first | assumption | exact load_box h hl w) histU rfl (histRow hl) ?_) | (go_at_call 14; refine (add_at h hl _ _ hv0 hv1).mono ?_; rintro e w1 ⟨rfl, hb1⟩; have hA : w1.heap[w.heap.size]? = some (.cells (hcells h) 28 (0, 0)) := by rw [hb1.block _ (by simp), load_box h hl w]) | (refine wpList_store_row rfl 28 _ _ rfl w1.heap.size (hcells (addH h v.toNat)) rfl rfl 28 (hcells zeros) (heap_alloc_new w1 _) (histRow hAL) (by rw [hS, hAL]; rfl) (hcells_one _) ?_))
      rw [World.setRow_alloc_new]
      simp only [Act.put]
      have hG2 : (w1.alloc (.cells (hcells (addH h v.toNat)) 28)).heap[w.heap.size]? = some (.cells (hcells h) 28 (0, 0)) := by rw [hp_old (lt_of_block hA), hA]
      have hX2 : (w1.alloc (.cells (hcells (addH h v.toNat)) 28)).heap[w1.heap.size]? = some (.cells (hcells (addH h v.toNat)) 28 (0, 0)) := heap_alloc_new w1 _
      have hW2 : Below w.heap.size w (w1.alloc (.cells (hcells (addH h v.toNat)) 28)) := (((Below.refl _ _).alloc (Nat.le_refl _) _).trans (hb1.mono (by simp))).alloc (by have := hb1.size; simp at this; omega) _
      generalize w1.alloc (.cells (hcells (addH h v.toNat)) 28) = W at hG2 hX2 hW2 ⊢
      generalize w1.heap.size = gx at hX2 ⊢
      clear hA hb1
      have hlG : ∀ w', (∃ x : Later W, w' = x.w) → w'.heap[w.heap.size]? = some (.cells (hcells h) 28 (0, 0)) := fun w' ⟨x, hx⟩ => hx ▸ x.block hG2
      have hlX : ∀ w', (∃ x : Later W, w' = x.w) → w'.heap[gx]? = some (.cells (hcells (addH h v.toNat)) 28 (0, 0)) := fun w' ⟨x, hx⟩ => hx ▸ x.block hX2
      have HG := Lib.hid hlG
      have HX := Lib.hid hlX
      clear hlG hlX
      refine wp_region_later (by kernel_rfl) (by kernel_rfl) (Below.refl _ _) ?_
      have hsame := hist_same (addH h v.toNat) hAL
      have hguard := histGuard
      repeat (first
        | go_big_quiet_skip
        | (go_big_quiet_want; first
          | (refine quiet_load_row 28 _ rfl w.heap.size rfl 28 (hcells h) (0, 0) _ HG.out histU rfl (histRow hl) ?_; simp only [Act.put, List.setIfInBounds_toArray, List.set_cons_succ, List.set_cons_zero]; go_big_quiet_on)
          | (refine quiet_load_row 28 _ rfl gx rfl 28 (hcells (addH h v.toNat)) (0, 0) _ HX.out histU rfl (histRow hAL) ?_; simp only [Act.put, List.setIfInBounds_toArray, List.set_cons_succ, List.set_cons_zero]; go_big_quiet_on)
          | (go_big_quiet_op; first | go_big_quiet_on | go_big_quiet_call (first
            | (go_at_call 15; exact Calls.later (right_any _ (by assumption) _))
            | (go_at_call 16; exact Calls.later (refRight_any _ (by assumption) _))
            | (go_at_call 17; exact Calls.later (refAdd_at _ (by assumption) _ _ hv0 hv1))
            | (go_at_call 18; exact Calls.later (total_any _ (by assumption) _))
            | (go_at_call 19; exact Calls.later (refTotal_any _ (by assumption) _))))))
      refine wpQuiet_nil ?_
      rintro ⟨W3, hb3⟩
      dsimp only
      have hG3 := kept hb3 hG2
      have hX3 := kept hb3 hX2
      have hW3 := bthen hW2 hb3
      clear hsame hguard HG HX hG2 hX2 hW2 hb3
      by_cases hr : rightB h = true
      · obtain ⟨q1, q2, q3⟩ := addH_right hl hr v.toNat
        have q4 : 1 ≤ tw (addH h v.toNat) := by have := (halve_right hl hr).2.1; omega
        clear q2 q3
        go_wp2_with (first | (refine wl_load_row rfl 28 _ rfl w.heap.size rfl 28 (hcells h) (0, 0) _ (by assumption) histU rfl (histRow hl) ?_) | (refine wl_load_row rfl 28 _ rfl gx rfl 28 (hcells (addH h v.toNat)) (0, 0) _ (by assumption) histU rfl (histRow hAL) ?_) | (go_at_call 16; refine (refRight_any h hl _).mono ?_; rintro e w4 ⟨rfl, hb4⟩; have hX4 := kept hb4 hX3; have hW4 := bthen hW3 hb4; clear hb4) | (go_at_call 15; refine (right_any _ hAL _).mono ?_; rintro e w5 ⟨rfl, hb5⟩; have hX5 := kept hb5 hX4; have hW5 := bthen hW4 hb5; clear hb5) | (go_at_call 18; refine (total_any _ hAL _).mono ?_; rintro e w6 ⟨rfl, hb6⟩; have hW6 := bthen hW5 hb6; clear hb6) | (go_at_call 13; refine (live10_any _).mono ?_; rintro e w7 ⟨rfl, hb7⟩; have hW7 := bthen hW6 hb7; clear hb7))
        go_ret
        exact ⟨rfl, hW7⟩
      · have hrb : rightB h = false := by simpa using hr
        clear hr
        go_wp2_with (first | (refine wl_load_row rfl 28 _ rfl w.heap.size rfl 28 (hcells h) (0, 0) _ (by assumption) histU rfl (histRow hl) ?_) | (go_at_call 16; refine (refRight_any h hl _).mono ?_; rintro e w4 ⟨rfl, hb4⟩; have hW4 := bthen hW3 hb4; clear hb4) | (go_at_call 13; refine (live10_any _).mono ?_; rintro e w7 ⟨rfl, hb7⟩; have hW7 := bthen hW4 hb7; clear hb7))
        go_ret
        exact ⟨rfl, hW7⟩
end Go.Proofs.Ytkhacnifefljmaa
