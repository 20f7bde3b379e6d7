/- The plain mathematics of products in two halves. No program in sight. -/
import Derived.WalkKit
set_option linter.unusedVariables false
namespace Go.Proofs.Ytkolhkeijmoccaa.FracLaw

def hi (a b : Nat) : Nat := a * b / 18446744073709551616
def lo (a b : Nat) : Nat := a * b % 18446744073709551616

theorem hi_lt {a b : Nat} (ha : a < 18446744073709551616) (hb : b < 18446744073709551616) : hi a b < 18446744073709551616 := by
  unfold hi
  have : a * b < 18446744073709551616 * 18446744073709551616 := by
    rcases Nat.eq_zero_or_pos b with h | h
    · subst h; simp
    · exact Nat.lt_of_lt_of_le (Nat.mul_lt_mul_of_pos_right ha h) (Nat.mul_le_mul_left _ (Nat.le_of_lt hb))
  exact Nat.div_lt_of_lt_mul this
theorem lo_lt (a b : Nat) : lo a b < 18446744073709551616 := Nat.mod_lt _ (by omega)

theorem split (a b : Nat) : a * b = hi a b * 18446744073709551616 + lo a b := by
  unfold hi lo; omega

/-- A product of two halves is small. -/
theorem half {x y : Nat} (hx : x < 4294967296) (hy : y < 4294967296) : x * y ≤ 18446744065119617025 := by
  have := Nat.mul_le_mul (show x ≤ 4294967295 by omega) (show y ≤ 4294967295 by omega)
  omega

/-- The schoolbook. -/
theorem school (a b : Nat) : a * b = (a / 4294967296) * (b / 4294967296) * 18446744073709551616 + ((a / 4294967296) * (b % 4294967296) + (a % 4294967296) * (b / 4294967296)) * 4294967296 + (a % 4294967296) * (b % 4294967296) := by
  have ha : a = 4294967296 * (a / 4294967296) + a % 4294967296 := (Nat.div_add_mod a 4294967296).symm
  have hb : b = 4294967296 * (b / 4294967296) + b % 4294967296 := (Nat.div_add_mod b 4294967296).symm
  generalize a / 4294967296 = x at *
  generalize a % 4294967296 = y at *
  generalize b / 4294967296 = u at *
  generalize b % 4294967296 = v at *
  subst ha hb
  have e1 : (4294967296 * x + y) * (4294967296 * u + v) = (x * u) * 18446744073709551616 + ((x * v) * 4294967296 + (y * u) * 4294967296) + y * v := by
    simp only [Nat.add_mul, Nat.mul_add]
    have a1 : 4294967296 * x * (4294967296 * u) = (x * u) * 18446744073709551616 := by
      rw [Nat.mul_mul_mul_comm]; omega
    have a2 : 4294967296 * x * v = (x * v) * 4294967296 := by rw [Nat.mul_assoc]; omega
    have a3 : y * (4294967296 * u) = (y * u) * 4294967296 := by rw [Nat.mul_left_comm]; omega
    omega
  rw [e1]; omega

theorem parts_eq (a b : Nat) (ha : a < 18446744073709551616) (hb : b < 18446744073709551616) :
    let x := a / 4294967296; let y := a % 4294967296; let u := b / 4294967296; let v := b % 4294967296
    let low := y * v; let mid := x * v + low / 4294967296; let rest := y * u + mid % 4294967296
    x * u + mid / 4294967296 + rest / 4294967296 = hi a b ∧ rest % 4294967296 * 4294967296 + low % 4294967296 = lo a b := by
  intro x y u v low mid rest
  have hs := school a b
  have h := split a b
  have hl := lo_lt a b
  have hh := hi_lt ha hb
  have b1 := half (x := x) (y := v) (by omega) (by omega)
  have b2 := half (x := y) (y := u) (by omega) (by omega)
  have b3 := half (x := y) (y := v) (by omega) (by omega)
  have b4 := half (x := x) (y := u) (by omega) (by omega)
  change a * b = x * u * 18446744073709551616 + (x * v + y * u) * 4294967296 + y * v at hs
  have e1 : low = y * v := rfl
  have e2 : mid = x * v + low / 4294967296 := rfl
  have e3 : rest = y * u + mid % 4294967296 := rfl
  clear_value low mid rest x y u v
  generalize x * u = p at *
  generalize x * v = q at *
  generalize y * u = r at *
  generalize y * v = s at *
  generalize hi a b = H at *
  generalize lo a b = L at *
  generalize a * b = T at *
  omega

/-- How two fractions stand. -/
def cmpv (a b c d : Nat) : Int := if a * d < b * c then -1 else if a * d = b * c then 0 else 1

theorem cmp_halves (a b c d : Nat) : (a * d < b * c ↔ hi a d < hi b c ∨ hi a d = hi b c ∧ lo a d < lo b c) ∧ (a * d = b * c ↔ hi a d = hi b c ∧ lo a d = lo b c) := by
  have h1 := split a d
  have h2 := split b c
  have l1 := lo_lt a d
  have l2 := lo_lt b c
  generalize a * d = S at *
  generalize b * c = T at *
  omega

def c2 (x y : Nat) : Int := if x < y then -1 else if y < x then 1 else 0

theorem cmpv_first (a b c d : Nat) : cmpv a b c d = if c2 (hi a d) (hi b c) ≠ 0 then c2 (hi a d) (hi b c) else c2 (lo a d) (lo b c) := by
  obtain ⟨h1, h2⟩ := cmp_halves a b c d
  unfold cmpv c2
  repeat' split
  all_goals first | rfl | omega

theorem cmpv_swap (a b c d : Nat) : cmpv c d a b = 0 - cmpv a b c d := by
  unfold cmpv
  rw [Nat.mul_comm c b, Nat.mul_comm d a]
  repeat' split
  all_goals omega

theorem cmpv_bd (a b c d : Nat) : -1 ≤ cmpv a b c d ∧ cmpv a b c d ≤ 1 := by unfold cmpv; repeat' split <;> omega

/-- A fraction rounded up. -/
def ceilv (a b : Nat) : Nat := if b = 0 then 0 else if a % b = 0 then a / b else a / b + 1


theorem cmpv_h {a b c d h i l m : Nat} (e1 : hi a d = h) (e2 : hi b c = i) (e3 : lo a d = l) (e4 : lo b c = m) :
    (h < i → cmpv a b c d = -1) ∧ (h = i → l < m → cmpv a b c d = -1) ∧ (h = i → l = m → cmpv a b c d = 0) ∧ (h = i → m < l → cmpv a b c d = 1) ∧ (i < h → cmpv a b c d = 1) := by
  obtain ⟨h1, h2⟩ := cmp_halves a b c d
  rw [e1, e2, e3, e4] at h1 h2
  unfold cmpv
  refine ⟨fun _ => ?_, fun _ _ => ?_, fun _ _ => ?_, fun _ _ => ?_, fun _ => ?_⟩ <;> (repeat' split) <;> omega

attribute [irreducible] hi lo

end Go.Proofs.Ytkolhkeijmoccaa.FracLaw
