/- Knuth's division of two digits by one, and shifts; the greatest number by bits. No program in sight. -/
import Derived.Test.YtkolhkeijmoccaaFracLaw
import Derived.Lib.ItoaNum
set_option linter.unusedVariables false
namespace Go.Proofs.Ytkolhkeijmoccaa.FracLaw

/-- A digit's loop: q is not below the digit, r is what u is more than q times the upper half. -/
structure Dig (Y u d q r : Nat) : Prop where
  e : q * (Y / 4294967296) + r = u
  up : (u * 4294967296 + d) / Y ≤ q
  qs : q ≤ 4294967297
  rs : r < 4294967296

section
variable {Y u d q r : Nat}
theorem two_halves (Y q : Nat) : q * Y = (q * (Y / 4294967296)) * 4294967296 + q * (Y % 4294967296) := by
  have h : Y = 4294967296 * (Y / 4294967296) + Y % 4294967296 := (Nat.div_add_mod Y 4294967296).symm
  have h2 : q * Y = q * (4294967296 * (Y / 4294967296) + Y % 4294967296) := by rw [← h]
  rw [h2, Nat.mul_add]
  have h3 : q * (4294967296 * (Y / 4294967296)) = q * (Y / 4294967296) * 4294967296 := by rw [Nat.mul_left_comm, Nat.mul_comm]
  rw [h3]
theorem digit_lt (hu : u < Y) (hd : d < 4294967296) : (u * 4294967296 + d) / Y < 4294967296 := by
  rw [Nat.div_lt_iff_lt_mul (by omega)]
  have : (u + 1) * 4294967296 ≤ Y * 4294967296 := Nat.mul_le_mul_right _ hu
  omega
theorem Dig.start (hY : 9223372036854775808 ≤ Y) (hY2 : Y < 18446744073709551616) (hu : u < Y) (hd : d < 4294967296) : Dig Y u d (u / (Y / 4294967296)) (u % (Y / 4294967296)) := by
  have ha : 2147483648 ≤ Y / 4294967296 := by omega
  have h0 : Y = 4294967296 * (Y / 4294967296) + Y % 4294967296 := (Nat.div_add_mod Y 4294967296).symm
  have hb : Y % 4294967296 < 4294967296 := Nat.mod_lt _ (by omega)
  refine ⟨by rw [Nat.mul_comm]; exact Nat.div_add_mod u _, ?_, ?_, ?_⟩
  · rw [Nat.le_div_iff_mul_le (by omega)]
    have h1 := Nat.div_mul_le_self (u * 4294967296 + d) Y
    rw [two_halves Y] at h1
    generalize (u * 4294967296 + d) / Y * (Y / 4294967296) = P at h1 ⊢
    generalize (u * 4294967296 + d) / Y * (Y % 4294967296) = R at h1
    omega
  · have : u / (Y / 4294967296) < 4294967298 := by
      rw [Nat.div_lt_iff_lt_mul (by omega)]
      generalize Y / 4294967296 = a at *
      generalize Y % 4294967296 = b at *
      omega
    omega
  · exact Nat.lt_of_lt_of_le (Nat.mod_lt _ (by omega)) (by omega)
theorem Dig.down (h : Dig Y u d q r) (hu : u < Y) (hd : d < 4294967296) (ht : 4294967296 ≤ q ∨ 4294967296 * r + d < q * (Y % 4294967296)) : 1 ≤ q ∧ (u * 4294967296 + d) / Y ≤ q - 1 := by
  have hq : (u * 4294967296 + d) / Y < q := by
    rcases ht with ht | ht
    · exact Nat.lt_of_lt_of_le (digit_lt hu hd) ht
    · rw [Nat.div_lt_iff_lt_mul (by omega), two_halves Y q]
      have h3 := h.e
      clear h
      omega
  generalize (u * 4294967296 + d) / Y = Q at *
  omega
theorem Dig.done (h : Dig Y u d q r) (hu : u < Y) (ht : q * (Y % 4294967296) ≤ 4294967296 * r + d) : q = (u * 4294967296 + d) / Y := by
  refine Nat.le_antisymm ?_ h.up
  rw [Nat.le_div_iff_mul_le (by omega), two_halves Y q]
  have := h.e
  generalize q * (Y / 4294967296) = P at *
  generalize q * (Y % 4294967296) = R at *
  omega
theorem step_e (h : Dig Y u d q r) (hq : 1 ≤ q) : (q - 1) * (Y / 4294967296) + (r + Y / 4294967296) = u := by
  have := h.e
  obtain ⟨p, rfl⟩ : ∃ p, q = p + 1 := ⟨q - 1, by omega⟩
  rw [Nat.add_mul] at this
  rw [Nat.add_sub_cancel]
  omega
theorem Dig.next (h : Dig Y u d q r) (hu : u < Y) (hd : d < 4294967296) (ht : 4294967296 ≤ q ∨ 4294967296 * r + d < q * (Y % 4294967296)) (hr : r + Y / 4294967296 < 4294967296) : Dig Y u d (q - 1) (r + Y / 4294967296) := by
  obtain ⟨h1, h2⟩ := h.down hu hd ht
  exact ⟨step_e h h1, h2, by have := h.qs; omega, hr⟩
theorem Dig.broke (h : Dig Y u d q r) (hu : u < Y) (hd : d < 4294967296) (ht : 4294967296 ≤ q ∨ 4294967296 * r + d < q * (Y % 4294967296)) (hr : 4294967296 ≤ r + Y / 4294967296) : q - 1 = (u * 4294967296 + d) / Y := by
  obtain ⟨h1, h2⟩ := h.down hu hd ht
  refine Nat.le_antisymm ?_ h2
  rw [Nat.le_div_iff_mul_le (by omega), two_halves Y]
  have e := step_e h h1
  have hs := h.qs
  have hb : (q - 1) * (Y % 4294967296) ≤ 4294967296 * 4294967295 := Nat.mul_le_mul (by omega) (by have := Nat.mod_lt Y (show 4294967296 > 0 by omega); omega)
  generalize (q - 1) * (Y / 4294967296) = P at *
  generalize (q - 1) * (Y % 4294967296) = R at *
  omega

/-- Two digits, one behind the other. -/
theorem two_digits' {Q R : Nat} (hY : 0 < Y) (u d e : Nat) (h : Y * Q + R = u * 4294967296 + d) : (u * 18446744073709551616 + (d * 4294967296 + e)) / Y = Q * 4294967296 + (R * 4294967296 + e) / Y := by
  have h2 : u * 18446744073709551616 + (d * 4294967296 + e) = (R * 4294967296 + e) + Y * (Q * 4294967296) := by
    have h3 : Y * (Q * 4294967296) = (Y * Q) * 4294967296 := by rw [Nat.mul_assoc]
    generalize Y * Q = T at *
    generalize Y * (Q * 4294967296) = V at *
    omega
  exact (congrArg (· / Y) h2).trans ((Nat.add_mul_div_left _ _ hY).trans (Nat.add_comm _ _))
theorem two_digits (hY : 0 < Y) (u d e : Nat) : (u * 18446744073709551616 + (d * 4294967296 + e)) / Y = (u * 4294967296 + d) / Y * 4294967296 + ((u * 4294967296 + d) % Y * 4294967296 + e) / Y :=
  two_digits' hY u d e (Nat.div_add_mod (u * 4294967296 + d) Y)
end

/-- What a shift leaves of two words. -/
theorem shift_words {h l s : Nat} (hs : s < 64) (hl : l < 18446744073709551616) : (h * 2 ^ s + l / 2 ^ (64 - s)) * 18446744073709551616 + l * 2 ^ s % 18446744073709551616 = (h * 18446744073709551616 + l) * 2 ^ s := by
  have e : (18446744073709551616 : Nat) = 2 ^ (64 - s) * 2 ^ s := by rw [← Nat.pow_add, Nat.sub_add_cancel (by omega)]
  have h1 : l / 2 ^ (64 - s) = l * 2 ^ s / 18446744073709551616 := by rw [e, Nat.mul_div_mul_right _ _ (Nat.two_pow_pos s)]
  rw [h1]
  have h2 := Nat.div_add_mod (l * 2 ^ s) 18446744073709551616
  rw [Nat.add_mul, Nat.add_mul, Nat.mul_right_comm]
  generalize l * 2 ^ s = L at *
  generalize h * 18446744073709551616 * 2 ^ s = H at *
  omega
theorem shift_div (n y s : Nat) : n * 2 ^ s / (y * 2 ^ s) = n / y := Nat.mul_div_mul_right _ _ (Nat.two_pow_pos s)

/-- The two words of the shifted number are apart: 'or' is their sum. -/
theorem shift_or {h l s : Nat} (hs : s < 64) (hl : l < 18446744073709551616) : (h * 2 ^ s) ||| (l / 2 ^ (64 - s)) = h * 2 ^ s + l / 2 ^ (64 - s) := by
  have : l / 2 ^ (64 - s) < 2 ^ s := by
    rw [Nat.div_lt_iff_lt_mul (Nat.two_pow_pos _), ← Nat.pow_add, show s + (64 - s) = 64 by omega]
    exact hl
  rw [Nat.mul_comm h, Nat.two_pow_add_eq_or_of_lt this]
/-- A shift that makes a number's top bit the word's. -/
theorem shift_top {y : Nat} (h0 : 0 < y) (hy : y < 18446744073709551616) : ∃ s : Nat, (s : Int) = 64 - (Lib.bitLen y : Int) ∧ s < 64 ∧ 9223372036854775808 ≤ y * 2 ^ s ∧ y * 2 ^ s < 18446744073709551616 := by
  obtain ⟨a, b, c⟩ := Lib.bitLenAux_bounds 64 y hy (by omega)
  have hle : Lib.bitLen y ≤ 64 := Lib.bitLen_le y 64 (by omega) hy
  change 1 ≤ Lib.bitLen y at a
  change 2 ^ (Lib.bitLen y - 1) ≤ y at b
  change y < 2 ^ Lib.bitLen y at c
  generalize Lib.bitLen y = L at *
  refine ⟨64 - L, by omega, by omega, ?_, ?_⟩
  · have := Nat.mul_le_mul_right (2 ^ (64 - L)) b
    rw [← Nat.pow_add, show L - 1 + (64 - L) = 63 by omega] at this
    exact this
  · have := Nat.mul_lt_mul_of_pos_right c (Nat.two_pow_pos (64 - L))
    rw [← Nat.pow_add, show L + (64 - L) = 64 by omega] at this
    exact this

end Go.Proofs.Ytkolhkeijmoccaa.FracLaw
