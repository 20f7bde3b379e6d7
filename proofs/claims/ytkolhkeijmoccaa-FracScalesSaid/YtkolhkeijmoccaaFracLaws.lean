/- The walks of the statements on fractions. -/
import Derived.Test.YtkolhkeijmoccaaFracOpen
import Derived.Deep.WholeRow
set_option linter.unusedVariables false
namespace Go.Proofs.Ytkolhkeijmoccaa
open Go.RowKit
open FracLaw

theorem ceil_any (a b : Nat) (ha : a < 18446744073709551616) (hb : b < 18446744073709551616) (w : World) :
    Calls Try.prog 11 #[.int .u64 a, .int .u64 b] w fun e w' => e = .returned (.int .u64 (ceilv a b)) ∧ w = w' := by
  by_cases h0 : b = 0
  · have H := Lib.hid (show ceilv a b = 0 from if_pos h0)
    subst h0
    go_enter Try.func11, Try.ntmps11
    go_wp2
    go_ret
    exact ⟨ret_int (by rw [H.out]; rfl), rfl⟩
  · have hz : ((b : Int) == 0) = false := by simp; omega
    have hq : a / b ≤ a := Nat.div_le_self a b
    have q0 : (0 : Int) ≤ (a : Int) / (b : Int) := Int.ediv_nonneg (Int.natCast_nonneg a) (Int.natCast_nonneg b)
    have q1 : (a : Int) / (b : Int) ≤ a := by rw [← Int.natCast_ediv]; omega
    by_cases hr : a % b = 0
    · have H := Lib.hid (show ceilv a b = a / b by unfold ceilv; rw [if_neg h0, if_pos hr])
      have hi : (a : Int) % (b : Int) = 0 := by rw [← Int.natCast_emod, hr]; rfl
      go_enter Try.func11, Try.ntmps11
      go_wp2
      go_ret
      exact ⟨ret_int (by rw [H.out, Int.natCast_ediv]), rfl⟩
    · have H := Lib.hid (show ceilv a b = a / b + 1 by unfold ceilv; rw [if_neg h0, if_neg hr])
      have hi : (0 : Int) < (a : Int) % (b : Int) := by rw [← Int.natCast_emod]; omega
      have q2 : (a : Int) / (b : Int) < 18446744073709551615 := by
        rw [← Int.natCast_ediv]
        have : a / b * b + a % b = a := Nat.div_add_mod' a b
        have h3 := Nat.mul_le_mul_left (a / b) (show 1 ≤ b by omega)
        omega
      go_enter Try.func11, Try.ntmps11
      go_wp2
      go_ret
      exact ⟨ret_int (by rw [H.out, Int.natCast_add, Int.natCast_ediv]; rfl), rfl⟩

theorem refCeil_any (a b : Nat) (ha : a < 18446744073709551616) (hb : b < 18446744073709551616) (w : World) :
    Calls Try.prog 12 #[.int .u64 a, .int .u64 b] w fun e w' => e = .returned (.int .u64 (ceilv a b)) ∧ w = w' := by
  by_cases h0 : b = 0
  · have H := Lib.hid (show ceilv a b = 0 from if_pos h0)
    subst h0
    go_enter Try.func12, Try.ntmps12
    go_wp2
    go_ret
    exact ⟨ret_int (by rw [H.out]; rfl), rfl⟩
  · have hz : ((b : Int) == 0) = false := by simp; omega
    have hq : a / b ≤ a := Nat.div_le_self a b
    have q0 : (0 : Int) ≤ (a : Int) / (b : Int) := Int.ediv_nonneg (Int.natCast_nonneg a) (Int.natCast_nonneg b)
    have q1 : (a : Int) / (b : Int) ≤ a := by rw [← Int.natCast_ediv]; omega
    by_cases hr : a % b = 0
    · have H := Lib.hid (show ceilv a b = a / b by unfold ceilv; rw [if_neg h0, if_pos hr])
      have hi : (((a : Int) % (b : Int)) == 0) = true := by rw [← Int.natCast_emod, hr]; rfl
      go_enter Try.func12, Try.ntmps12
      go_wp2
      go_ret
      exact ⟨ret_int (by rw [H.out, Int.natCast_ediv]), rfl⟩
    · have H := Lib.hid (show ceilv a b = a / b + 1 by unfold ceilv; rw [if_neg h0, if_neg hr])
      have hi : (((a : Int) % (b : Int)) == 0) = false := by rw [← Int.natCast_emod]; simp; omega
      have q2 : (a : Int) / (b : Int) < 18446744073709551615 := by
        rw [← Int.natCast_ediv]
        have : a / b * b + a % b = a := Nat.div_add_mod' a b
        have h3 := Nat.mul_le_mul_left (a / b) (show 1 ≤ b by omega)
        omega
      go_enter Try.func12, Try.ntmps12
      go_wp2
      go_ret
      exact ⟨ret_int (by rw [H.out, Int.natCast_add, Int.natCast_ediv]; rfl), rfl⟩

set_option maxHeartbeats 1000000 in
theorem live05_any (w : World) : Calls Try.prog 8 #[] w fun e w' => e = .returned (.bool true) ∧ Below w.heap.size w w' := by
  have e1 : cmpv 1 3 2 6 = 0 := by decide +kernel
  have e2 : ceilv 7 2 = 4 := by decide +kernel
  have e3 : nearv 5 1 12 2 0 0 = false := by decide +kernel
  have e4 : nearv 5 1 12 2 1 0 = true := by decide +kernel
  have C1 := fun W => compare_any 1 3 2 6 (by omega) (by omega) (by omega) (by omega) W
  have C2 := fun W => ceil_any 7 2 (by omega) (by omega) W
  have C3 := fun W => near_any 5 1 12 2 0 0 (by omega) (by omega) (by omega) (by omega) (by omega) (by omega) W
  have C4 := fun W => near_any 5 1 12 2 1 0 (by omega) (by omega) (by omega) (by omega) (by omega) (by omega) W
  rw [e1] at C1
  rw [e2] at C2
  rw [e3] at C3
  rw [e4] at C4
  have C1 := Lib.hid C1
  have C2 := Lib.hid C2
  have C3 := Lib.hid C3
  have C4 := Lib.hid C4
  go_enter Try.func8, Try.ntmps8
  go_wp2_with fail
  go_at_call 6; refine (C1.out _).mono ?_; rintro e w1 ⟨rfl, hb1⟩
  go_wp2_with fail
  go_at_call 11; refine (C2.out _).mono ?_; rintro e w2 ⟨rfl, rfl⟩
  go_wp2_with fail
  go_at_call 9; refine (C3.out _).mono ?_; rintro e w3 ⟨rfl, rfl⟩
  go_wp2_with fail
  go_at_call 9; refine (C4.out _).mono ?_; rintro e w4 ⟨rfl, rfl⟩
  go_wp2_with fail
  go_ret
  exact ⟨rfl, hb1⟩

end Go.Proofs.Ytkolhkeijmoccaa
