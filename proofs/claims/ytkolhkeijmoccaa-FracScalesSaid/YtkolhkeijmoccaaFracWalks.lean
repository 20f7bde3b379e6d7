/- The contracts of frac's functions. -/
import Derived.Test.YtkolhkeijmoccaaRows
import Derived.Test.YtkolhkeijmoccaaFracLaw
import Derived.Test.YtkolhkeijmoccaaShelf
import Derived.Test.YtkolhkeijmoccaaBase
set_option linter.unusedVariables false
namespace Go.Proofs.Ytkolhkeijmoccaa
open Go.RowKit
open FracLaw

theorem ret_int {k : IntKind} {a b : Int} (h : a = b) : Ending.returned (.int k a) = .returned (.int k b) := by rw [h]
theorem ret_bool {a b : Bool} (h : a = b) : Ending.returned (.bool a) = .returned (.bool b) := by rw [h]
theorem ret_two {k : IntKind} {a b c d : Int} (h1 : a = b) (h2 : c = d) : Ending.returned (.tuple #[.int k a, .int k c]) = .returned (.tuple #[.int k b, .int k d]) := by rw [h1, h2]

theorem cast_dd (a b n : Nat) : ((a / n * (b / n) : Nat) : Int) = (a : Int) / (n : Int) * ((b : Int) / (n : Int)) := by simp only [Int.natCast_mul, Int.natCast_ediv]
theorem cast_dm (a b n : Nat) : ((a / n * (b % n) : Nat) : Int) = (a : Int) / (n : Int) * ((b : Int) % (n : Int)) := by simp only [Int.natCast_mul, Int.natCast_ediv, Int.natCast_emod]
theorem cast_md (a b n : Nat) : ((a % n * (b / n) : Nat) : Int) = (a : Int) % (n : Int) * ((b : Int) / (n : Int)) := by simp only [Int.natCast_mul, Int.natCast_ediv, Int.natCast_emod]
theorem cast_mm (a b n : Nat) : ((a % n * (b % n) : Nat) : Int) = (a : Int) % (n : Int) * ((b : Int) % (n : Int)) := by simp only [Int.natCast_mul, Int.natCast_emod]

set_option maxRecDepth 100000 in
set_option maxHeartbeats 1000000 in
theorem parts_any (a b : Nat) (ha : a < 18446744073709551616) (hb : b < 18446744073709551616) (w : World) :
    Calls Try.prog 18 #[.int .u64 a, .int .u64 b] w fun e w' => e = .returned (.tuple #[.int .u64 (hi a b), .int .u64 (lo a b)]) ∧ w = w' := by
  obtain ⟨e1, e2⟩ := parts_eq a b ha hb
  have E1 := Lib.hid e1
  have E2 := Lib.hid e2
  obtain ⟨b0, c0⟩ : (0 : Int) ≤ (a : Int) / 4294967296 * ((b : Int) % 4294967296) ∧ (a : Int) / 4294967296 * ((b : Int) % 4294967296) ≤ 18446744065119617025 := by
    have h := half (x := a / 4294967296) (y := b % 4294967296) (by omega) (by omega)
    have e : ((a / 4294967296 * (b % 4294967296) : Nat) : Int) = (a : Int) / 4294967296 * ((b : Int) % 4294967296) := cast_dm a b 4294967296
    rw [← e]; omega
  obtain ⟨b1, c1⟩ : (0 : Int) ≤ (a : Int) % 4294967296 * ((b : Int) / 4294967296) ∧ (a : Int) % 4294967296 * ((b : Int) / 4294967296) ≤ 18446744065119617025 := by
    have h := half (x := a % 4294967296) (y := b / 4294967296) (by omega) (by omega)
    have e : ((a % 4294967296 * (b / 4294967296) : Nat) : Int) = (a : Int) % 4294967296 * ((b : Int) / 4294967296) := cast_md a b 4294967296
    rw [← e]; omega
  obtain ⟨b2, c2⟩ : (0 : Int) ≤ (a : Int) % 4294967296 * ((b : Int) % 4294967296) ∧ (a : Int) % 4294967296 * ((b : Int) % 4294967296) ≤ 18446744065119617025 := by
    have h := half (x := a % 4294967296) (y := b % 4294967296) (by omega) (by omega)
    have e : ((a % 4294967296 * (b % 4294967296) : Nat) : Int) = (a : Int) % 4294967296 * ((b : Int) % 4294967296) := cast_mm a b 4294967296
    rw [← e]; omega
  obtain ⟨b3, c3⟩ : (0 : Int) ≤ (a : Int) / 4294967296 * ((b : Int) / 4294967296) ∧ (a : Int) / 4294967296 * ((b : Int) / 4294967296) ≤ 18446744065119617025 := by
    have h := half (x := a / 4294967296) (y := b / 4294967296) (by omega) (by omega)
    have e : ((a / 4294967296 * (b / 4294967296) : Nat) : Int) = (a : Int) / 4294967296 * ((b : Int) / 4294967296) := cast_dd a b 4294967296
    rw [← e]; omega
  clear e1 e2
  go_enter Try.func18, Try.ntmps18
  go_wp2
  go_ret2
  refine ⟨ret_two (by rw [← E1.out]; simp only [Int.natCast_add, Int.natCast_mul, Int.natCast_ediv, Int.natCast_emod, Int.cast_ofNat_Int]) (by rw [← E2.out]; simp only [Int.natCast_add, Int.natCast_mul, Int.natCast_ediv, Int.natCast_emod, Int.cast_ofNat_Int]; omega), rfl⟩

theorem isNaN_any (x : Int) (w : World) : Calls Try.prog 22 #[.int .u64 x] w fun e w' => e = .returned (.bool false) ∧ w = w' := by
  go_enter Try.func22, Try.ntmps22
  go_wp2
  go_ret
  exact ⟨by simp, rfl⟩

theorem cmp_any (x y : Nat) (w : World) : Calls Try.prog 17 #[.int .u64 x, .int .u64 y] w fun e w' => e = .returned (.int .i64 (c2 x y)) ∧ w = w' := by
  by_cases h1 : x < y
  · have H := Lib.hid (show c2 x y = -1 from if_pos h1)
    go_enter Try.func17, Try.ntmps17
    go_wp2_with (go_at_call 22; refine (isNaN_any _ _).mono ?_; rintro e w' ⟨rfl, rfl⟩)
    go_ret
    exact ⟨ret_int H.out.symm, rfl⟩
  by_cases h2 : y < x
  · have H := Lib.hid (show c2 x y = 1 by unfold c2; rw [if_neg h1, if_pos h2])
    go_enter Try.func17, Try.ntmps17
    go_wp2_with (go_at_call 22; refine (isNaN_any _ _).mono ?_; rintro e w' ⟨rfl, rfl⟩)
    go_ret
    exact ⟨ret_int H.out.symm, rfl⟩
  · have H := Lib.hid (show c2 x y = 0 by unfold c2; rw [if_neg h1, if_neg h2])
    go_enter Try.func17, Try.ntmps17
    go_wp2_with (go_at_call 22; refine (isNaN_any _ _).mono ?_; rintro e w' ⟨rfl, rfl⟩)
    go_ret
    exact ⟨ret_int H.out.symm, rfl⟩

/-- The first of two that is not nought. -/
theorem first_any (x y : Int) (b cap : Nat) (w : World) (h0 : w.cell? ⟨b, 0, none⟩ = some (.int .i64 x)) (h1 : w.cell? ⟨b, 0 + 1, none⟩ = some (.int .i64 y)) :
    Calls Try.prog 16 #[.slice (some ⟨b, 0, none⟩) 2 cap] w fun e w' => e = .returned (.int .i64 (if x ≠ 0 then x else y)) ∧ w = w' := by
  by_cases hx : x = 0
  · have H := Lib.hid (show (if x ≠ 0 then x else y) = y by rw [if_neg (by simp [hx])])
    by_cases hy : y = 0
    · subst hx hy
      go_enter Try.func16, Try.ntmps16
      go_wp2
      refine wp_loop_rounds 3 ?_
      rw [rounds_succ]
      go_wp2
      rw [rounds_succ]
      go_wp2
      rw [rounds_succ]
      go_wp2
      go_ret
      exact ⟨ret_int H.out.symm, rfl⟩
    · have hy' : (y != 0) = true := by simpa using hy
      subst hx
      go_enter Try.func16, Try.ntmps16
      go_wp2
      refine wp_loop_rounds 3 ?_
      rw [rounds_succ]
      go_wp2
      rw [rounds_succ]
      go_wp2
      go_ret
      exact ⟨ret_int H.out.symm, rfl⟩
  · have hx' : (x != 0) = true := by simpa using hx
    go_enter Try.func16, Try.ntmps16
    go_wp2
    refine wp_loop_rounds 3 ?_
    rw [rounds_succ]
    go_wp2
    go_ret
    exact ⟨rfl, rfl⟩

end Go.Proofs.Ytkolhkeijmoccaa
