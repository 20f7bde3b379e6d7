/- Scale, the program's and the document's; the statement on scales. -/
import Derived.Test.YtkolhkeijmoccaaFracDiv2
import Derived.Test.YtkolhkeijmoccaaFracLaws2
set_option linter.unusedVariables false
namespace Go.Proofs.Ytkolhkeijmoccaa
open Go.RowKit
open FracLaw

/-- A product rounded down, or the greatest number. -/
def scalev (a b c : Nat) : Nat := if c = 0 then 0 else if c ≤ a * b / 18446744073709551616 then 18446744073709551615 else a * b / c
theorem below_iff (n c a b : Nat) : n * c ≤ a * b ↔ hi n c < hi a b ∨ hi n c = hi a b ∧ lo n c ≤ lo a b := by
  have h3 := split n c
  have h4 := split a b
  have l3 := lo_lt n c
  have l4 := lo_lt a b
  generalize n * c = S at *
  generalize a * b = T at *
  omega
theorem below_any (n c a b : Nat) (hn : n < 18446744073709551616) (hc : c < 18446744073709551616) (ha : a < 18446744073709551616) (hb : b < 18446744073709551616) (w : World) :
    Calls Try.prog 21 #[.int .u64 n, .int .u64 c, .int .u64 a, .int .u64 b] w fun e w' => e = .returned (.bool (decide (n * c ≤ a * b))) ∧ w = w' := by
  have K1 := Lib.hid (parts_any n c hn hc w)
  have K2 := Lib.hid (parts_any a b ha hb w)
  have hI := below_iff n c a b
  obtain ⟨B, hB⟩ : ∃ B, B = decide (n * c ≤ a * b) := ⟨_, rfl⟩
  rw [← hB]
  obtain ⟨h, eh⟩ : ∃ h, h = hi n c := ⟨_, rfl⟩
  obtain ⟨i, ei⟩ : ∃ i, i = hi a b := ⟨_, rfl⟩
  obtain ⟨l, el⟩ : ∃ l, l = lo n c := ⟨_, rfl⟩
  obtain ⟨m, em⟩ : ∃ m, m = lo a b := ⟨_, rfl⟩
  rw [← eh, ← el] at K1
  rw [← ei, ← em] at K2
  rw [← eh, ← el, ← ei, ← em] at hI
  clear eh ei el em
  by_cases h1 : h < i
  · have HB := Lib.hid (show B = true from by rw [hB, decide_eq_true_iff, hI]; omega)
    clear hI hB
    go_enter Try.func21, Try.ntmps21
    go_upto_region 2 with (go_at_call 18; refine K1.out.mono ?_; rintro e w' ⟨rfl, rfl⟩)
    go_wp2_with (go_at_call 18; refine K2.out.mono ?_; rintro e w' ⟨rfl, rfl⟩)
    go_ret
    exact ⟨ret_bool HB.out.symm, rfl⟩
  · by_cases h2 : h = i
    · subst h2
      have hei : ((h : Int) == (h : Int)) = true := by simp
      by_cases h3 : l ≤ m
      · have HB := Lib.hid (show B = true from by rw [hB, decide_eq_true_iff, hI]; omega)
        clear hI hB h1
        go_enter Try.func21, Try.ntmps21
        go_upto_region 2 with (go_at_call 18; refine K1.out.mono ?_; rintro e w' ⟨rfl, rfl⟩)
        go_wp2_with (go_at_call 18; refine K2.out.mono ?_; rintro e w' ⟨rfl, rfl⟩)
        go_ret
        exact ⟨ret_bool HB.out.symm, rfl⟩
      · have HB := Lib.hid (show B = false from by rw [hB, decide_eq_false_iff_not, hI]; omega)
        clear hI hB h1
        go_enter Try.func21, Try.ntmps21
        go_upto_region 2 with (go_at_call 18; refine K1.out.mono ?_; rintro e w' ⟨rfl, rfl⟩)
        go_wp2_with (go_at_call 18; refine K2.out.mono ?_; rintro e w' ⟨rfl, rfl⟩)
        go_ret
        exact ⟨ret_bool HB.out.symm, rfl⟩
    · have HB := Lib.hid (show B = false from by rw [hB, decide_eq_false_iff_not, hI]; omega)
      have hei : ((h : Int) == (i : Int)) = false := by simp; omega
      clear hI hB
      go_enter Try.func21, Try.ntmps21
      go_upto_region 2 with (go_at_call 18; refine K1.out.mono ?_; rintro e w' ⟨rfl, rfl⟩)
      go_wp2_with (go_at_call 18; refine K2.out.mono ?_; rintro e w' ⟨rfl, rfl⟩)
      go_ret
      exact ⟨ret_bool HB.out.symm, rfl⟩

theorem scale_any (a b c : Nat) (ha : a < 18446744073709551616) (hb : b < 18446744073709551616) (hc : c < 18446744073709551616) (w : World) :
    Calls Try.prog 13 #[.int .u64 a, .int .u64 b, .int .u64 c] w fun e w' => e = .returned (.int .u64 (scalev a b c)) ∧ Below w.heap.size w w' := by
  by_cases h0 : c = 0
  · subst h0
    have HV := Lib.hid (show scalev a b 0 = 0 from if_pos rfl)
    go_enter Try.func13, Try.ntmps13
    go_wp2_with fail
    go_ret
    exact ⟨ret_int (by rw [HV.out]; rfl), Below.refl _ _⟩
  · have KM := Lib.hid (Try.bits_Mul64 a b ha hb w)
    have hci : ((c : Int) == 0) = false := by simp; omega
    have hl := lo_lt a b
    have hlm : a * b % 18446744073709551616 < 18446744073709551616 := Nat.mod_lt _ (by omega)
    obtain ⟨h, eh⟩ : ∃ h, h = a * b / 18446744073709551616 := ⟨_, rfl⟩
    obtain ⟨l, el⟩ : ∃ l, l = a * b % 18446744073709551616 := ⟨_, rfl⟩
    rw [← eh, ← el] at KM
    rw [← el] at hlm
    have hT : h * 18446744073709551616 + l = a * b := by rw [eh, el, Nat.mul_comm (a * b / 18446744073709551616)]; exact Nat.div_add_mod _ _
    by_cases h1 : c ≤ h
    · have HV := Lib.hid (show scalev a b c = 18446744073709551615 from by unfold scalev; rw [if_neg h0, ← eh, if_pos h1])
      have h1i : decide ((c : Int) ≤ (h : Int)) = true := by simp; omega
      clear hT eh el hl hlm ha hb hc
      go_enter Try.func13, Try.ntmps13
      go_wp2_with (go_at_call 15; refine KM.out.mono ?_; rintro e w' ⟨rfl, e9⟩; obtain rfl := e9.symm)
      go_ret
      exact ⟨ret_int (by rw [HV.out]; rfl), Below.refl _ _⟩
    · have HV := Lib.hid (show scalev a b c = (h * 18446744073709551616 + l) / c from by unfold scalev; rw [if_neg h0, ← eh, if_neg h1, hT])
      have h1i : decide ((c : Int) ≤ (h : Int)) = false := by simp; omega
      have KD := Lib.hid (div_any h l c (by omega) hlm hc w)
      clear hT eh el hl hlm ha hb hc
      go_enter Try.func13, Try.ntmps13
      go_wp2_with (first
        | (go_at_call 20; refine KD.out.mono ?_; rintro e w9 ⟨r, rfl, hb9⟩)
        | (go_at_call 15; refine KM.out.mono ?_; rintro e w' ⟨rfl, e9⟩; obtain rfl := e9.symm))
      go_ret
      exact ⟨ret_int (by rw [HV.out]; simp), hb9⟩

/-- The greatest number, bit by bit. -/
def jv : Nat → Int
  | 0 => -1
  | k + 1 => k
structure Bits (S n j : Nat) : Prop where
  lo : n ≤ S
  hi : S < n + 2 ^ j
  top : n + 2 ^ j ≤ 18446744073709551616
theorem Bits.start {S : Nat} (h : S < 18446744073709551616) : Bits S 0 64 := ⟨Nat.zero_le _, by omega, by omega⟩
theorem Bits.yes {S n k : Nat} (h : Bits S n (k + 1)) (hx : n + 2 ^ k ≤ S) : Bits S (n + 2 ^ k) k := by
  have h1 := h.hi
  have h2 := h.top
  rw [Nat.pow_succ] at h1 h2
  exact ⟨hx, by omega, by omega⟩
theorem Bits.no {S n k : Nat} (h : Bits S n (k + 1)) (hx : ¬ n + 2 ^ k ≤ S) : Bits S n k := by
  have h2 := h.top
  rw [Nat.pow_succ] at h2
  exact ⟨h.lo, by omega, by omega⟩
theorem Bits.done {S n : Nat} (h : Bits S n 0) : n = S := by
  have h1 := h.hi
  have h2 := h.lo
  simp at h1
  omega
theorem scale_lt (a b c : Nat) : scalev a b c < 18446744073709551616 := by
  unfold scalev
  split
  · omega
  · split
    · omega
    · rename_i h1 h2
      have h3 : a * b / 18446744073709551616 < c := by omega
      rw [Nat.div_lt_iff_lt_mul (by omega)] at h3
      rw [Nat.div_lt_iff_lt_mul (by omega)]
      omega
theorem scale_below {a b c x : Nat} (hc : c ≠ 0) (hx : x < 18446744073709551616) : x * c ≤ a * b ↔ x ≤ scalev a b c := by
  unfold scalev
  rw [if_neg hc]
  split
  · rename_i h1
    rw [Nat.le_div_iff_mul_le (by omega)] at h1
    have : x * c ≤ 18446744073709551615 * c := Nat.mul_le_mul_right _ (by omega)
    constructor
    · intro _; omega
    · intro _
      omega
  · rw [Nat.le_div_iff_mul_le (by omega)]

set_option maxRecDepth 100000 in
set_option maxHeartbeats 1000000 in
theorem refScale_any (a b c : Nat) (ha : a < 18446744073709551616) (hb : b < 18446744073709551616) (hc : c < 18446744073709551616) (w : World) :
    Calls Try.prog 14 #[.int .u64 a, .int .u64 b, .int .u64 c] w fun e w' => e = .returned (.int .u64 (scalev a b c)) ∧ w = w' := by
  by_cases h0 : c = 0
  · subst h0
    have HV := Lib.hid (show scalev a b 0 = 0 from if_pos rfl)
    go_enter Try.func14, Try.ntmps14
    go_wp2_with fail
    go_ret
    exact ⟨ret_int (by rw [HV.out]; rfl), rfl⟩
  · have hci : ((c : Int) == 0) = false := by simp; omega
    have KB := Lib.hid (fun (x : Nat) (hx : x < 18446744073709551616) => below_any x c a b hx hc ha hb w)
    have HC := Lib.hid h0
    clear ha hb hc h0
    go_enter Try.func14, Try.ntmps14
    go_wp2_with fail
    go_loop [7, 8] (fun nv kv => ∃ n j : Nat, nv = .int .u64 n ∧ kv = .int .i64 (jv j) ∧ j ≤ 64 ∧ Bits (scalev a b c) n j) (fun _ kv => (intOf kv + 1).toNat)
    case atStart => exact ⟨0, 64, rfl, rfl, by omega, Bits.start (scale_lt a b c)⟩
    case round =>
      obtain ⟨n, j, rfl, rfl, hj, hB⟩ := hrel
      have HB := Lib.hid hB
      clear hB
      cases j with
      | zero =>
        have HE := Lib.hid (HB.out.done)
        show Code.wp _ _ _ _ _
        simp only [jv]
        go_wp2_with fail
        go_ret
        exact ⟨ret_int (by rw [HE.out]), rfl⟩
      | succ k =>
        have htop := HB.out.top
        rw [Nat.pow_succ] at htop
        have hpos : 0 < 2 ^ k := Nat.two_pow_pos k
        obtain ⟨x, hx⟩ : ∃ x : Nat, x = n + 2 ^ k := ⟨_, rfl⟩
        have hxl : x < 18446744073709551616 := by omega
        have HX := Lib.hid (show IntKind.u64.wrap ((n : Int) + IntKind.u64.wrap (2 ^ k)) = (x : Int) from by
          have e : ((2 ^ k : Nat) : Int) = (2 : Int) ^ k := by simp
          rw [← e, wrap_int, wrap_int]
          omega)
        have K := KB.out x hxl
        have hbl := scale_below (a := a) (b := b) HC.out hxl
        by_cases hle : x ≤ scalev a b c
        · rw [decide_eq_true (hbl.2 hle)] at K
          have K := Lib.hid K
          have HN := Lib.hid (HB.out.yes (by rw [← hx]; exact hle))
          rw [← hx] at HN
          clear htop hpos hx hxl hbl hle
          simp only [jv]
          go_upto_region 8 with fail
          rw [HX.out]
          go_wp2_with (go_at_call 21; refine K.out.mono ?_; rintro e w' ⟨rfl, rfl⟩)
          go_round
          case rel => exact ⟨x, k, rfl, by cases k <;> simp, by omega, HN.out⟩
          case measure => cases k <;> simp [intOf] <;> omega
        · rw [decide_eq_false (fun h => hle (hbl.1 h))] at K
          have K := Lib.hid K
          have HN := Lib.hid (HB.out.no (by rw [← hx]; exact hle))
          clear htop hpos hx hxl hbl hle
          simp only [jv]
          go_upto_region 8 with fail
          rw [HX.out]
          go_wp2_with (go_at_call 21; refine K.out.mono ?_; rintro e w' ⟨rfl, rfl⟩)
          go_round
          case rel => exact ⟨n, k, rfl, by cases k <;> simp, by omega, HN.out⟩
          case measure => cases k <;> simp [intOf] <;> omega

theorem fracScales_walk (a b c : Nat) (ha : a < 18446744073709551616) (hb : b < 18446744073709551616) (hc : c < 18446744073709551616) (w : World) :
    Calls Try.prog 5 #[.int .u64 a, .int .u64 b, .int .u64 c] w fun e w' => e = .returned (.bool true) ∧ Below w.heap.size w w' := by
  have K1 := fun (w : World) => ceil_any a b ha hb w
  have K2 := fun (w : World) => refCeil_any a b ha hb w
  have K3 := fun (w : World) => scale_any a b c ha hb hc w
  have K4 := fun (w : World) => refScale_any a b c ha hb hc w
  obtain ⟨n1, hn1⟩ : ∃ n, n = ceilv a b := ⟨_, rfl⟩
  obtain ⟨n2, hn2⟩ : ∃ n, n = scalev a b c := ⟨_, rfl⟩
  rw [← hn1] at K1 K2
  rw [← hn2] at K3 K4
  have K1 := Lib.hid K1
  have K2 := Lib.hid K2
  have K3 := Lib.hid K3
  have K4 := Lib.hid K4
  clear ha hb hc hn1 hn2
  go_enter Try.func5, Try.ntmps5
  go_wp2_with (first
    | (go_at_call 11; refine (K1.out _).mono ?_; rintro e w' ⟨rfl, rfl⟩)
    | (go_at_call 12; refine (K2.out _).mono ?_; rintro e w' ⟨rfl, rfl⟩)
    | (go_at_call 13; refine (K3.out _).mono ?_; rintro e w3 ⟨rfl, hb3⟩)
    | (go_at_call 14; refine (K4.out _).mono ?_; rintro e w' ⟨rfl, rfl⟩)
    | (go_at_call 8; refine (live05_any _).mono ?_; rintro e w5 ⟨rfl, hb5⟩))
  go_ret
  exact ⟨rfl, bthen' hb3 hb5⟩

theorem fracScales_of (A B C : Int) (w : World) (hA : (Lit.int .u64 A).wf = true) (hB : (Lit.int .u64 B).wf = true) (hC : (Lit.int .u64 C).wf = true) :
    Calls Try.prog 5 #[.int .u64 A, .int .u64 B, .int .u64 C] w fun e w' => e = .returned (.bool true) ∧ Below w.heap.size w w' := by
  have b0 := bounds_u64 hA
  have b1 := bounds_u64 hB
  have b2 := bounds_u64 hC
  obtain ⟨A, rfl⟩ := Int.eq_ofNat_of_zero_le b0.1
  obtain ⟨B, rfl⟩ := Int.eq_ofNat_of_zero_le b1.1
  obtain ⟨C, rfl⟩ := Int.eq_ofNat_of_zero_le b2.1
  exact fracScales_walk A B C (by omega) (by omega) (by omega) w

end Go.Proofs.Ytkolhkeijmoccaa
