/- The contracts of frac's functions: Compare. -/
import Derived.Test.YtkolhkeijmoccaaFracWalks
set_option linter.unusedVariables false
namespace Go.Proofs.Ytkolhkeijmoccaa
open Go.RowKit
open FracLaw

theorem mul_at (a b h l : Nat) (ha : a < 18446744073709551616) (hb : b < 18446744073709551616) (e1 : hi a b = h) (e2 : lo a b = l) (w : World) :
    Calls Try.prog 15 #[.int .u64 a, .int .u64 b] w fun e w' => e = .returned (.tuple #[.int .u64 h, .int .u64 l]) ∧ w = w' := by
  subst e1 e2
  unfold hi lo
  exact (Try.bits_Mul64 a b ha hb w).mono fun e w' h => ⟨h.1, h.2.symm⟩

theorem parts_at (a b h l : Nat) (ha : a < 18446744073709551616) (hb : b < 18446744073709551616) (e1 : hi a b = h) (e2 : lo a b = l) (w : World) :
    Calls Try.prog 18 #[.int .u64 a, .int .u64 b] w fun e w' => e = .returned (.tuple #[.int .u64 h, .int .u64 l]) ∧ w = w' := by
  subst e1 e2
  exact parts_any a b ha hb w

theorem pair_0 (w : World) (v u : Value) (t : TypeId) : (w.alloc (.cells #[v, u] t)).cell? ⟨w.heap.size, 0, none⟩ = some v := by rw [World.cell?_alloc_new]; rfl
theorem pair_1 (w : World) (v u : Value) (t : TypeId) : (w.alloc (.cells #[v, u] t)).cell? ⟨w.heap.size, 0 + 1, none⟩ = some u := by rw [World.cell?_alloc_new]; rfl

set_option maxHeartbeats 1000000 in
theorem compare_any (a b c d : Nat) (ha : a < 18446744073709551616) (hb : b < 18446744073709551616) (hc : c < 18446744073709551616) (hd : d < 18446744073709551616) (w : World) :
    Calls Try.prog 6 #[.int .u64 a, .int .u64 b, .int .u64 c, .int .u64 d] w fun e w' => e = .returned (.int .i64 (cmpv a b c d)) ∧ Below w.heap.size w w' := by
  obtain ⟨h, e1⟩ : ∃ h, hi a d = h := ⟨_, rfl⟩
  obtain ⟨i, e2⟩ : ∃ i, hi b c = i := ⟨_, rfl⟩
  obtain ⟨l, e3⟩ : ∃ l, lo a d = l := ⟨_, rfl⟩
  obtain ⟨m, e4⟩ : ∃ m, lo b c = m := ⟨_, rfl⟩
  have H := cmpv_first a b c d
  rw [e1, e2, e3, e4] at H
  go_enter Try.func6, Try.ntmps6
  go_wp2_with (first
    | (go_at_call 15; refine (mul_at _ _ _ _ (by assumption) (by assumption) (by first | exact e1 | exact e2) (by first | exact e3 | exact e4) _).mono ?_; rintro e w' ⟨rfl, rfl⟩)
    | (go_at_call 17; (refine (cmp_any _ _ _).mono ?_; rintro e w' ⟨rfl, rfl⟩))
    | (go_at_call 16; refine (first_any _ _ _ _ _ (pair_0 _ _ _ _) (pair_1 _ _ _ _)).mono ?_; rintro e w' ⟨rfl, rfl⟩))
  all_goals (go_ret; exact ⟨rfl, (Below.refl _ _).alloc (Nat.le_refl _) _⟩)

set_option maxHeartbeats 1000000 in
theorem refCompare_any (a b c d : Nat) (ha : a < 18446744073709551616) (hb : b < 18446744073709551616) (hc : c < 18446744073709551616) (hd : d < 18446744073709551616) (w : World) :
    Calls Try.prog 7 #[.int .u64 a, .int .u64 b, .int .u64 c, .int .u64 d] w fun e w' => e = .returned (.int .i64 (cmpv a b c d)) ∧ w = w' := by
  obtain ⟨h, e1⟩ : ∃ h, hi a d = h := ⟨_, rfl⟩
  obtain ⟨i, e2⟩ : ∃ i, hi b c = i := ⟨_, rfl⟩
  obtain ⟨l, e3⟩ : ∃ l, lo a d = l := ⟨_, rfl⟩
  obtain ⟨m, e4⟩ : ∃ m, lo b c = m := ⟨_, rfl⟩
  obtain ⟨k1, k2, k3, k4, k5⟩ := cmpv_h e1 e2 e3 e4
  rcases Nat.lt_trichotomy h i with hh | hh | hh
  · have H := Lib.hid (k1 hh); clear k1 k2 k3 k4 k5
    go_enter Try.func7, Try.ntmps7
    go_wp2_with (go_at_call 18; refine (parts_at _ _ _ _ (by assumption) (by assumption) (by first | exact e1 | exact e2) (by first | exact e3 | exact e4) _).mono ?_; rintro e w' ⟨rfl, rfl⟩)
    go_ret
    exact ⟨ret_int (by rw [H.out]), rfl⟩
  · subst hh
    rcases Nat.lt_trichotomy l m with hl | hl | hl
    · have H := Lib.hid (k2 rfl hl); clear k1 k2 k3 k4 k5
      go_enter Try.func7, Try.ntmps7
      go_wp2_with (go_at_call 18; refine (parts_at _ _ _ _ (by assumption) (by assumption) (by first | exact e1 | exact e2) (by first | exact e3 | exact e4) _).mono ?_; rintro e w' ⟨rfl, rfl⟩)
      go_ret
      exact ⟨ret_int (by rw [H.out]), rfl⟩
    · subst hl
      have H := Lib.hid (k3 rfl rfl); clear k1 k2 k3 k4 k5
      go_enter Try.func7, Try.ntmps7
      go_wp2_with (go_at_call 18; refine (parts_at _ _ _ _ (by assumption) (by assumption) (by first | exact e1 | exact e2) (by first | exact e3 | exact e4) _).mono ?_; rintro e w' ⟨rfl, rfl⟩)
      go_ret
      exact ⟨ret_int (by rw [H.out]), rfl⟩
    · have H := Lib.hid (k4 rfl hl); clear k1 k2 k3 k4 k5
      go_enter Try.func7, Try.ntmps7
      go_wp2_with (go_at_call 18; refine (parts_at _ _ _ _ (by assumption) (by assumption) (by first | exact e1 | exact e2) (by first | exact e3 | exact e4) _).mono ?_; rintro e w' ⟨rfl, rfl⟩)
      go_ret
      exact ⟨ret_int (by rw [H.out]), rfl⟩
  · have H := Lib.hid (k5 hh); clear k1 k2 k3 k4 k5
    go_enter Try.func7, Try.ntmps7
    go_wp2_with (go_at_call 18; refine (parts_at _ _ _ _ (by assumption) (by assumption) (by first | exact e1 | exact e2) (by first | exact e3 | exact e4) _).mono ?_; rintro e w' ⟨rfl, rfl⟩)
    go_ret
    exact ⟨ret_int (by rw [H.out]), rfl⟩

end Go.Proofs.Ytkolhkeijmoccaa
