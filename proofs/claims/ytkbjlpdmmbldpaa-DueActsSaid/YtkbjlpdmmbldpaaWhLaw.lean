/- A timing wheel: where a tick's numbers lie. Plain Lean, no program. -/
import Derived.Test.YtkbjlpdmmbldpaaProg
set_option linter.unusedVariables false
namespace Go.Proofs.Ytkbjlpdmmbldpaa

def dig (a l : Nat) : Nat := a / 16 ^ l % 16
def spotN (now a : Nat) : Nat :=
  if a ≤ now then 64 else if a / 65536 ≠ now / 65536 then 80 else if dig a 3 ≠ dig now 3 then 48 + dig a 3 else if dig a 2 ≠ dig now 2 then 32 + dig a 2 else if dig a 1 ≠ dig now 1 then 16 + dig a 1 else dig a 0
theorem dig_lt (a l : Nat) : dig a l < 16 := Nat.mod_lt _ (by decide)
/-- A tick's digits. -/
theorem digits (a : Nat) : ∃ h d3 d2 d1 d0 : Nat, a = h * 65536 + d3 * 4096 + d2 * 256 + d1 * 16 + d0 ∧ d3 < 16 ∧ d2 < 16 ∧ d1 < 16 ∧ d0 < 16 ∧ a / 65536 = h ∧ dig a 3 = d3 ∧ dig a 2 = d2 ∧ dig a 1 = d1 ∧ dig a 0 = d0 := by
  refine ⟨a / 65536, a / 4096 % 16, a / 256 % 16, a / 16 % 16, a % 16, by omega, by omega, by omega, by omega, by omega, rfl, rfl, rfl, ?_, ?_⟩
  · show a / 16 ^ 1 % 16 = a / 16 % 16; rw [Nat.pow_one]
  · show a / 16 ^ 0 % 16 = a % 16; rw [Nat.pow_zero, Nat.div_one]
theorem spotN_lt (now a : Nat) : spotN now a < 96 := by
  have h3 := dig_lt a 3
  have h2 := dig_lt a 2
  have h1 := dig_lt a 1
  have h0 := dig_lt a 0
  unfold spotN
  repeat (split; · omega)
  omega
theorem spotN_late {now a : Nat} : spotN now a = 64 ↔ a ≤ now := by
  have h3 := dig_lt a 3
  have h2 := dig_lt a 2
  have h1 := dig_lt a 1
  have h0 := dig_lt a 0
  unfold spotN
  constructor
  · intro h
    split at h
    · assumption
    · repeat (split at h; · omega)
      omega
  · intro h; rw [if_pos h]
theorem spotN_far {now a : Nat} : spotN now a = 80 ↔ now < a ∧ a / 65536 ≠ now / 65536 := by
  have h3 := dig_lt a 3
  have h2 := dig_lt a 2
  have h1 := dig_lt a 1
  have h0 := dig_lt a 0
  unfold spotN
  constructor
  · intro h
    split at h
    · omega
    · split at h
      · exact ⟨by omega, by assumption⟩
      · repeat (split at h; · omega)
        omega
  · rintro ⟨h, h'⟩; rw [if_neg (by omega), if_pos h']
set_option maxHeartbeats 1000000 in
theorem spotN_order {now a b : Nat} (ha : now < a) (hb : now < b) (h : spotN now a < spotN now b) : a < b := by
  unfold spotN at h
  rw [if_neg (show ¬ a ≤ now by omega), if_neg (show ¬ b ≤ now by omega)] at h
  obtain ⟨h', d3, d2, d1, d0, e, l3, l2, l1, l0, eh, e3, e2, e1, e0⟩ := digits now
  obtain ⟨hA, a3, a2, a1, a0, ea, m3, m2, m1, m0, eah, ea3, ea2, ea1, ea0⟩ := digits a
  obtain ⟨hB, b3, b2, b1, b0, eb, n3, n2, n1, n0, ebh, eb3, eb2, eb1, eb0⟩ := digits b
  rw [eh, e3, e2, e1, eah, ea3, ea2, ea1, ea0, ebh, eb3, eb2, eb1, eb0] at h
  clear eh e3 e2 e1 e0 eah ea3 ea2 ea1 ea0 ebh eb3 eb2 eb1 eb0
  repeat' split at h
  all_goals omega
set_option maxHeartbeats 1000000 in
theorem spotN_stay {now to a : Nat} (h1 : now < to) (h2 : to ≤ a) (hf : spotN now a ≠ 80) (hr : ∀ l, l < 4 → spotN now a ≠ 16 * l + dig to l) : spotN to a = spotN now a := by
  have r3 := hr 3 (by decide)
  have r2 := hr 2 (by decide)
  have r1 := hr 1 (by decide)
  have r0 := hr 0 (by decide)
  clear hr
  unfold spotN at *
  rw [if_neg (by omega)] at hf r3 r2 r1 r0
  rw [if_neg (show ¬ a ≤ now by omega)]
  obtain ⟨h', d3, d2, d1, d0, e, l3, l2, l1, l0, eh, e3, e2, e1, e0⟩ := digits now
  obtain ⟨hA, a3, a2, a1, a0, ea, m3, m2, m1, m0, eah, ea3, ea2, ea1, ea0⟩ := digits a
  obtain ⟨hT, t3, t2, t1, t0, et, n3, n2, n1, n0, eth, et3, et2, et1, et0⟩ := digits to
  rw [eh, e3, e2, e1, eah, ea3, ea2, ea1, ea0] at hf
  rw [eh, e3, e2, e1, eah, ea3, ea2, ea1, ea0, et3] at r3
  rw [eh, e3, e2, e1, eah, ea3, ea2, ea1, ea0, et2] at r2
  rw [eh, e3, e2, e1, eah, ea3, ea2, ea1, ea0, et1] at r1
  rw [eh, e3, e2, e1, eah, ea3, ea2, ea1, ea0, et0] at r0
  rw [eh, e3, e2, e1, eah, ea3, ea2, ea1, ea0, eth, et3, et2, et1]
  clear eh e3 e2 e1 e0 eah ea3 ea2 ea1 ea0 eth et3 et2 et1 et0
  by_cases c1 : hA = h'
  · have n1 : ¬ hA ≠ h' := by omega
    have cT : ¬ hA ≠ hT := by omega
    rw [if_neg n1] at hf r3 r2 r1 r0 ⊢
    rw [if_neg cT]
    by_cases c3 : a3 = d3
    · have n3' : ¬ a3 ≠ d3 := by omega
      rw [if_neg n3'] at hf r3 r2 r1 r0 ⊢
      by_cases c5 : a2 = d2
      · have n5 : ¬ a2 ≠ d2 := by omega
        rw [if_neg n5] at hf r3 r2 r1 r0 ⊢
        by_cases c7 : a1 = d1
        · have n7 : ¬ a1 ≠ d1 := by omega
          rw [if_neg n7] at hf r3 r2 r1 r0 ⊢
          repeat' split
          all_goals omega
        · rw [if_pos c7] at hf r3 r2 r1 r0 ⊢
          repeat' split
          all_goals omega
      · rw [if_pos c5] at hf r3 r2 r1 r0 ⊢
        repeat' split
        all_goals omega
    · rw [if_pos c3] at hf r3 r2 r1 r0 ⊢
      repeat' split
      all_goals omega
  · rw [if_pos c1] at hf
    exact absurd rfl hf
end Go.Proofs.Ytkbjlpdmmbldpaa
