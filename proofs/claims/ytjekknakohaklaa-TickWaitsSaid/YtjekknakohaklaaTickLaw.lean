/- The plain mathematics of waits: doublings that stop at a most. No program in sight. -/
import Derived.WalkKit
set_option linter.unusedVariables false
namespace Go.Proofs.Ytjekknakohaklaa.TickLaw

/-- What is waited ahead of try n. -/
def wt (base most n : Int) : Int :=
  if n < 1 ∨ base < 1 ∨ most < 1 then 0 else min most (base * 2 ^ (n - 1).toNat)

/-- After k doublings. -/
def dbl (base most : Int) (k : Nat) : Int := min most (base * 2 ^ k)

theorem dbl_zero (base most : Int) : dbl base most 0 = min base most := by
  unfold dbl; simp; omega

theorem dbl_succ (base most : Int) (k : Nat) (hb : 1 ≤ base) (hm : 1 ≤ most) : dbl base most (k + 1) = min most (2 * dbl base most k) := by
  unfold dbl
  have : base * 2 ^ (k + 1) = 2 * (base * 2 ^ k) := by rw [Int.pow_succ]; rw [← Int.mul_assoc, Int.mul_comm]
  rw [this]; omega

theorem pow_pos' (k : Nat) : (1 : Int) ≤ 2 ^ k := by
  induction k with
  | zero => simp
  | succ k ih => rw [Int.pow_succ]; omega

theorem mul_ge (base : Int) (k : Nat) (hb : 1 ≤ base) : base ≤ base * 2 ^ k := by
  have := Int.mul_le_mul_of_nonneg_left (pow_pos' k) (show (0 : Int) ≤ base by omega)
  omega

theorem pow_mono' {j k : Nat} (h : j ≤ k) : (2 : Int) ^ j ≤ 2 ^ k := by
  induction h with
  | refl => omega
  | step _ ih => rw [Int.pow_succ]; have := pow_pos' j; omega

theorem mul_mono (base : Int) {j k : Nat} (hb : 1 ≤ base) (h : j ≤ k) : base * 2 ^ j ≤ base * 2 ^ k :=
  Int.mul_le_mul_of_nonneg_left (pow_mono' h) (by omega)

theorem dbl_bd (base most : Int) (k : Nat) (hb : 1 ≤ base) (hm : 1 ≤ most) : 1 ≤ dbl base most k ∧ dbl base most k ≤ most := by
  have := mul_ge base k hb
  unfold dbl; omega

theorem dbl_mono (base most : Int) {j k : Nat} (hb : 1 ≤ base) (h : j ≤ k) : dbl base most j ≤ dbl base most k := by
  have := mul_mono base hb h
  unfold dbl; omega

theorem dbl_64 (base most : Int) (k : Nat) (hb : 1 ≤ base) (hm : most ≤ 9223372036854775807) (hk : 64 ≤ k) : dbl base most k = most := by
  have h1 := mul_mono base hb hk
  have h2 : base * 2 ^ 64 ≥ 2 ^ 64 := by
    have := Int.mul_le_mul_of_nonneg_right hb (show (0 : Int) ≤ 2 ^ 64 by decide)
    omega
  have h3 : (2 : Int) ^ 64 = 18446744073709551616 := by decide
  unfold dbl; omega

theorem wt_zero {base most n : Int} (h : n < 1 ∨ base < 1 ∨ most < 1) : wt base most n = 0 := if_pos h

theorem wt_dbl {base most n : Int} (hn : 1 ≤ n) (hb : 1 ≤ base) (hm : 1 ≤ most) : wt base most n = dbl base most (n - 1).toNat := by
  unfold wt dbl; rw [if_neg (by omega)]

/-- The number of rounds from which on the wait is at its most: found by trying up to 64. -/
def rd (base most : Int) : Nat → Nat → Nat
  | 0, k => k
  | f + 1, k => if dbl base most k < most then rd base most f (k + 1) else k

theorem rd_spec (base most : Int) : ∀ (f k : Nat), (∀ j, j < k → dbl base most j < most) → (dbl base most (k + f) = most) → (∀ j, j < rd base most f k → dbl base most j < most) ∧ k ≤ rd base most f k ∧ rd base most f k ≤ k + f ∧ ¬ dbl base most (rd base most f k) < most
  | 0, k, h, h2 => ⟨by simpa [rd] using h, by simp [rd], by simp [rd], by simp [rd]; simp at h2; omega⟩
  | f + 1, k, h, h2 => by
    unfold rd
    split
    · next hlt =>
      have := rd_spec base most f (k + 1) (fun j hj => by
        by_cases hjk : j = k
        · subst hjk; exact hlt
        · exact h j (by omega)) (by rw [← h2]; congr 1; omega)
      refine ⟨this.1, by omega, by omega, this.2.2.2⟩
    · next hlt => exact ⟨h, by omega, by omega, hlt⟩

def rdv (base most : Int) : Int := if base < 1 ∨ most < 1 then 0 else (rd base most 63 0 : Int) + 1

theorem dbl_63 (base most : Int) (hb : 1 ≤ base) (hm : most ≤ 9223372036854775807) : dbl base most 63 = most := by
  have h2 : base * 2 ^ 63 ≥ 2 ^ 63 := by
    have := Int.mul_le_mul_of_nonneg_right hb (show (0 : Int) ≤ 2 ^ 63 by decide)
    omega
  have h3 : (2 : Int) ^ 63 = 9223372036854775808 := by decide
  unfold dbl; omega

theorem rd_unique {base most : Int} {k : Nat} (hb : 1 ≤ base) (hm : most ≤ 9223372036854775807) (h : ∀ j, j < k → dbl base most j < most) (hk : ¬ dbl base most k < most) : rd base most 63 0 = k := by
  have hs := rd_spec base most 63 0 (fun j hj => by omega) (by simpa using dbl_63 base most hb hm)
  by_cases h1 : rd base most 63 0 < k
  · exact absurd (h _ h1) hs.2.2.2
  · by_cases h2 : k < rd base most 63 0
    · exact absurd (hs.1 _ h2) hk
    · omega

theorem rdv_zero {base most : Int} (h : base < 1 ∨ most < 1) : rdv base most = 0 := if_pos h
theorem rdv_is {base most : Int} {k : Nat} (hb : 1 ≤ base) (hm1 : 1 ≤ most) (hm : most ≤ 9223372036854775807) (h : ∀ j, j < k → dbl base most j < most) (hk : ¬ dbl base most k < most) : rdv base most = (k : Int) + 1 := by
  unfold rdv; rw [if_neg (by omega), rd_unique hb hm h hk]

/-- The law on one more try. -/
theorem wt_step (base most n : Int) (hn : 1 ≤ n) : wt base most n ≤ wt base most (n + 1) ∧ wt base most (n + 1) - wt base most n ≤ wt base most n ∧ (base < 1 ∨ most < 1 ∨ wt base most n ≤ most) := by
  by_cases hb : base < 1
  · rw [wt_zero (.inr (.inl hb)), wt_zero (.inr (.inl hb))]; omega
  by_cases hm : most < 1
  · rw [wt_zero (.inr (.inr hm)), wt_zero (.inr (.inr hm))]; omega
  rw [wt_dbl hn (by omega) (by omega), wt_dbl (by omega) (by omega) (by omega), show (n + 1 - 1).toNat = (n - 1).toNat + 1 by omega, dbl_succ _ _ _ (by omega) (by omega)]
  have := dbl_bd base most (n - 1).toNat (by omega) (by omega)
  omega

theorem wt_bd (base most n : Int) : 0 ≤ wt base most n ∧ (wt base most n ≤ most ∨ wt base most n = 0) := by
  by_cases h : n < 1 ∨ base < 1 ∨ most < 1
  · rw [wt_zero h]; omega
  · rw [wt_dbl (by omega) (by omega) (by omega)]
    have := dbl_bd base most (n - 1).toNat (by omega) (by omega)
    omega

end Go.Proofs.Ytjekknakohaklaa.TickLaw
