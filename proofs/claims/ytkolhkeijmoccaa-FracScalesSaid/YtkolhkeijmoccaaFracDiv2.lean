/- Div64. -/
import Derived.Test.YtkolhkeijmoccaaFracWalks
import Derived.Test.YtkolhkeijmoccaaFracDiv
import Derived.Laws.Bits64b
import Derived.Laws.BitsLemmas
import Derived.Deep.CutRange
import Derived.Deep.DeepCutAuto
import Derived.Deep.CutBlock
set_option linter.unusedVariables false
namespace Go.Proofs.Ytkolhkeijmoccaa
open Go.RowKit
open FracLaw

theorem wrap_mod (n : Nat) : IntKind.u64.wrap (n : Int) = ((n % 18446744073709551616 : Nat) : Int) := by
  simp only [IntKind.wrap, IntKind.signed, IntKind.bits]
  simp
theorem wrap_nat {n : Nat} (h : n < 18446744073709551616) : IntKind.u64.wrap (n : Int) = (n : Int) := by rw [wrap_mod, Nat.mod_eq_of_lt h]
theorem and_low (n : Nat) (h : n < 18446744073709551616) : bits BinOp.and IntKind.u64 (n : Int) 4294967295 = ((n % 4294967296 : Nat) : Int) := by
  have := bits_and_u64_nat n 4294967295 h (by omega)
  rw [show n &&& 4294967295 = n % 4294967296 from Nat.and_two_pow_sub_one_eq_mod n 32] at this
  exact this

theorem wrap_int (x : Int) : IntKind.u64.wrap x = x % 18446744073709551616 := by
  simp only [IntKind.wrap, IntKind.signed, IntKind.bits]
  simp
theorem sub_rest {u d Y Q R : Nat} (h : Q * Y + R = u * 4294967296 + d) (hR : R < 18446744073709551616) : IntKind.u64.wrap (IntKind.u64.wrap (IntKind.u64.wrap ((u : Int) * 4294967296) + (d : Int)) - IntKind.u64.wrap ((Q : Int) * (Y : Int))) = (R : Int) := by
  simp only [wrap_int]
  have hp : ((Q * Y : Nat) : Int) = (Q : Int) * (Y : Int) := by simp
  rw [← hp]
  generalize Q * Y = P at *
  omega

/-- A quotient, and some rest. -/
def DivGives (w : World) (n : Nat) (e : Ending) (w' : World) : Prop := ∃ r : Int, e = .returned (.tuple #[.int .u64 n, .int .u64 r]) ∧ Below w.heap.size w w'

set_option maxRecDepth 100000 in
set_option maxHeartbeats 4000000 in
theorem div_yes (h l y : Nat) (hh : h < y) (hl : l < 18446744073709551616) (hy : y < 18446744073709551616) (h0 : 0 < h) (w : World) :
    Calls Try.prog 20 #[.int .u64 h, .int .u64 l, .int .u64 y] w (DivGives w ((h * 18446744073709551616 + l) / y)) := by
  obtain ⟨s, hs, hs64, hY1, hY2⟩ := shift_top (y := y) (by omega) hy
  have KL := Lib.hid (Try.bits_LeadingZeros64 y w (by omega) (by omega))
  rw [Int.toNat_natCast, ← hs] at KL
  have e1 : ((y : Int) == 0) = false := by simp; omega
  have e2 : ((h : Int) == 0) = false := by simp; omega
  have e3 : decide ((y : Int) ≤ (h : Int)) = false := by simp; omega
  have hhs : h * 2 ^ s < 18446744073709551616 := Nat.lt_of_le_of_lt (Nat.mul_le_mul_right _ (Nat.le_of_lt hh)) hY2
  have hlu : l / 2 ^ (64 - s) < 18446744073709551616 := Nat.lt_of_le_of_lt (Nat.div_le_self _ _) hl
  have hu : h * 2 ^ s + l / 2 ^ (64 - s) < y * 2 ^ s := by
    have h1 : l / 2 ^ (64 - s) < 2 ^ s := by
      rw [Nat.div_lt_iff_lt_mul (Nat.two_pow_pos _), ← Nat.pow_add, show s + (64 - s) = 64 by omega]
      exact hl
    have h2 : (h + 1) * 2 ^ s ≤ y * 2 ^ s := Nat.mul_le_mul_right _ hh
    rw [Nat.add_mul] at h2
    omega
  obtain ⟨Y, hYe⟩ : ∃ Y : Nat, Y = y * 2 ^ s := ⟨_, rfl⟩
  have HY := Lib.hid (show IntKind.u64.wrap ((y : Int) * 2 ^ s) = (Y : Int) from by rw [hYe, ← wrap_nat hY2]; simp)
  obtain ⟨u, hue⟩ : ∃ u : Nat, u = h * 2 ^ s + l / 2 ^ (64 - s) := ⟨_, rfl⟩
  have HU := Lib.hid (show bits BinOp.or IntKind.u64 (IntKind.u64.wrap ((h : Int) * 2 ^ s)) ((l : Int) / 2 ^ (64 - s)) = (u : Int) from by
    have h1 := bits_or_u64_nat (h * 2 ^ s) (l / 2 ^ (64 - s)) hhs hlu
    rw [shift_or hs64 hl, ← hue] at h1
    rw [show IntKind.u64.wrap ((h : Int) * 2 ^ s) = ((h * 2 ^ s : Nat) : Int) from by rw [← wrap_nat hhs]; simp, show ((l : Int) / 2 ^ (64 - s)) = ((l / 2 ^ (64 - s) : Nat) : Int) from by simp]
    exact h1)
  obtain ⟨e, hee⟩ : ∃ e : Nat, e = l * 2 ^ s % 18446744073709551616 := ⟨_, rfl⟩
  have he : e < 18446744073709551616 := by rw [hee]; exact Nat.mod_lt _ (by omega)
  have HE := Lib.hid (show IntKind.u64.wrap ((l : Int) * 2 ^ s) = (e : Int) from by rw [hee, ← wrap_mod]; simp)
  rw [← hYe] at hY1 hY2 hu
  rw [← hue] at hu
  have HV := Lib.hid (show (h * 18446744073709551616 + l) / y = (u * 18446744073709551616 + e) / Y from by
    rw [hue, hee, shift_words hs64 hl, hYe, shift_div])
  clear hYe hue hee hs hhs hlu
  obtain ⟨a, ha⟩ : ∃ a : Nat, a = Y / 4294967296 := ⟨_, rfl⟩
  obtain ⟨b, hb⟩ : ∃ b : Nat, b = Y % 4294967296 := ⟨_, rfl⟩
  obtain ⟨d, hd⟩ : ∃ d : Nat, d = e / 4294967296 := ⟨_, rfl⟩
  obtain ⟨f, hf⟩ : ∃ f : Nat, f = e % 4294967296 := ⟨_, rfl⟩
  have HA := Lib.hid (show (Y : Int) / 4294967296 = (a : Int) from by omega)
  have HB := Lib.hid (show bits BinOp.and IntKind.u64 (Y : Int) 4294967295 = (b : Int) from by rw [and_low Y hY2, hb])
  have HD := Lib.hid (show (e : Int) / 4294967296 = (d : Int) from by omega)
  have HF := Lib.hid (show bits BinOp.and IntKind.u64 (e : Int) 4294967295 = (f : Int) from by rw [and_low e he, hf])
  have ha1 : 2147483648 ≤ a := by omega
  have ha2 : a < 4294967296 := by omega
  have hb2 : b < 4294967296 := by omega
  have hd2 : d < 4294967296 := by omega
  have hf2 : f < 4294967296 := by omega
  have hS := Dig.start (d := d) hY1 hY2 hu hd2
  rw [← ha] at hS
  obtain ⟨q0, hq0⟩ : ∃ q : Nat, q = u / a := ⟨_, rfl⟩
  obtain ⟨r0, hr0⟩ : ∃ r : Nat, r = u % a := ⟨_, rfl⟩
  rw [← hq0, ← hr0] at hS
  have HS := Lib.hid hS
  have hqa : q0 * a + r0 = u := by have := hS.e; rwa [← ha] at this
  have hq64 : q0 < 18446744073709551616 := by have := hS.qs; omega
  have HQ := Lib.hid (show IntKind.u64.wrap ((u : Int) / (a : Int)) = (q0 : Int) from by rw [← wrap_nat hq64, hq0]; simp)
  have hqi : (0 : Int) ≤ (q0 : Int) * (a : Int) ∧ (q0 : Int) * (a : Int) ≤ (u : Int) := by
    have : ((q0 * a : Nat) : Int) = (q0 : Int) * (a : Int) := by simp
    omega
  have HR := Lib.hid (show (u : Int) - (q0 : Int) * (a : Int) = (r0 : Int) from by
    have : ((q0 * a : Nat) : Int) = (q0 : Int) * (a : Int) := by simp
    omega)
  obtain ⟨hq1, hq2⟩ := hqi
  have hu2 : u < 18446744073709551616 := by omega
  have ED := Lib.hid (show e = d * 4294967296 + f from by omega)
  have EA := Lib.hid ha
  have EB := Lib.hid hb
  clear ha hb hd hf hS hq0 hr0 hqa he
  go_enter Try.func20, Try.ntmps20
  go_upto_region 9 with (go_at_call 23; refine KL.out.mono ?_; rintro e w' ⟨rfl, e9⟩; obtain rfl := e9.symm)
  rw [HY.out]
  go_upto_region 13 with fail
  rw [HA.out, HB.out, HU.out, HE.out]
  go_upto_region 15 with fail
  rw [HD.out, HF.out]
  go_upto_region 16 with fail
  rw [HQ.out]
  go_upto_block 0 with fail
  rw [HR.out]
  have HUY := Lib.hid hu
  have HD2 := Lib.hid hd2
  have HF2 := Lib.hid hf2
  have HY1 := Lib.hid hY1
  have HY2 := Lib.hid hY2
  have HS64 := Lib.hid hs64
  clear hY1 hY2 hu hl hy hh h0 hs64 hq64 hu2 hq1 hq2 e1 e2 e3
  go_cut [15] (fun sq wx => sq = .int .u64 (((u * 4294967296 + d) / Y : Nat) : Int) ∧ wx = w)
  case first =>
    go_wp2_with fail
    go_loop [15, 16] (fun qv rv => ∃ q r : Nat, qv = .int .u64 q ∧ rv = .int .u64 r ∧ Dig Y u d q r) (fun qv _ => (intOf qv).toNat)
    case atStart => exact ⟨_, _, rfl, rfl, HS.out⟩
    case round =>
      obtain ⟨q, r, rfl, rfl, hD⟩ := hrel
      have HD := Lib.hid hD
      have hq1 : (q : Int) ≤ 4294967297 := by have := hD.qs; omega
      have hr1 : (r : Int) < 4294967296 := by have := hD.rs; omega
      have hd2 := HD2.out
      have hmul : ((q * b : Nat) : Int) = (q : Int) * (b : Int) := by simp
      have hp0 : (0 : Int) ≤ (q : Int) * (b : Int) := by omega
      have hp1 : (q : Int) * (b : Int) ≤ 18446744073709551615 := by
        have : q * b ≤ 4294967297 * 4294967295 := Nat.mul_le_mul hD.qs (by omega)
        omega
      clear hD hd2
      have hbI : (b : Int) < 4294967296 := by omega
      have haI : (a : Int) < 4294967296 := by omega
      have hdI : (d : Int) < 4294967296 := by omega
      by_cases hge : (4294967296 : Int) ≤ (q : Int)
      · have ht : 4294967296 ≤ q ∨ 4294967296 * r + d < q * (Y % 4294967296) := .inl (by omega)
        have hd1 : (1 : Int) ≤ (q : Int) := by have := (HD.out.down HUY.out HD2.out ht).1; omega
        by_cases hbr : (4294967296 : Int) ≤ (r : Int) + (a : Int)
        · have HX := Lib.hid (HD.out.broke HUY.out HD2.out ht (by rw [← EA.out]; omega))
          clear hmul ht HD
          go_wp2_with fail
          go_meet
          exact ⟨by rw [← HX.out]; go_num, rfl⟩
        · have HN := Lib.hid (HD.out.next HUY.out HD2.out ht (by rw [← EA.out]; omega))
          rw [← EA.out] at HN
          clear hmul ht HD
          go_wp2_with fail
          go_round
          case rel => exact ⟨q - 1, r + a, by go_num, by go_num, HN.out⟩
          case measure => simp [intOf]; omega
      · by_cases hlt : 4294967296 * (r : Int) + (d : Int) < (q : Int) * (b : Int)
        · have ht : 4294967296 ≤ q ∨ 4294967296 * r + d < q * (Y % 4294967296) := .inr (by rw [← EB.out]; omega)
          have hd1 : (1 : Int) ≤ (q : Int) := by have := (HD.out.down HUY.out HD2.out ht).1; omega
          by_cases hbr : (4294967296 : Int) ≤ (r : Int) + (a : Int)
          · have HX := Lib.hid (HD.out.broke HUY.out HD2.out ht (by rw [← EA.out]; omega))
            clear hmul ht HD
            go_wp2_with fail
            go_meet
            exact ⟨by rw [← HX.out]; go_num, rfl⟩
          · have HN := Lib.hid (HD.out.next HUY.out HD2.out ht (by rw [← EA.out]; omega))
            rw [← EA.out] at HN
            clear hmul ht HD
            go_wp2_with fail
            go_round
            case rel => exact ⟨q - 1, r + a, by go_num, by go_num, HN.out⟩
            case measure => simp [intOf]; omega
        · have HX := Lib.hid (HD.out.done HUY.out (by rw [← EB.out]; omega))
          have hlt := Int.not_lt.1 hlt
          clear hmul HD
          go_wp2_with fail
          go_meet
          exact ⟨by rw [← HX.out], rfl⟩
  case rest =>
    obtain ⟨rfl, hwc⟩ := hcut
    obtain rfl := hwc.symm
    obtain ⟨Q1, hQ1⟩ : ∃ Q1 : Nat, Q1 = (u * 4294967296 + d) / Y := ⟨_, rfl⟩
    obtain ⟨R1, hR1⟩ : ∃ R1 : Nat, R1 = (u * 4294967296 + d) % Y := ⟨_, rfl⟩
    rw [← hQ1]
    have hY0 : 0 < Y := by have := HY1.out; omega
    have hRY : R1 < Y := by rw [hR1]; exact Nat.mod_lt _ hY0
    have hRM : R1 < 18446744073709551616 := by have := HY2.out; omega
    have HSUB := Lib.hid (sub_rest (u := u) (d := d) (Y := Y) (Q := Q1) (R := R1) (by rw [hQ1, hR1, Nat.mul_comm]; exact Nat.div_add_mod _ _) hRM)
    have hQB : (Q1 : Int) < 4294967296 := by have := digit_lt HUY.out HD2.out; rw [← hQ1] at this; omega
    have hS2 := Dig.start (d := f) HY1.out HY2.out hRY HF2.out
    rw [← EA.out] at hS2
    obtain ⟨q2, hq2⟩ : ∃ q : Nat, q = R1 / a := ⟨_, rfl⟩
    obtain ⟨r2, hr2⟩ : ∃ r : Nat, r = R1 % a := ⟨_, rfl⟩
    rw [← hq2, ← hr2] at hS2
    have HS2 := Lib.hid hS2
    have hq64 : q2 < 18446744073709551616 := by have := hS2.qs; omega
    have HQ2 := Lib.hid (show IntKind.u64.wrap ((R1 : Int) / (a : Int)) = (q2 : Int) from by rw [← wrap_nat hq64, hq2]; simp)
    have hqa : q2 * a + r2 = R1 := by have := hS2.e; rwa [← EA.out] at this
    have hcast : ((q2 * a : Nat) : Int) = (q2 : Int) * (a : Int) := by simp
    have hm1 : (0 : Int) ≤ (q2 : Int) * (a : Int) := by omega
    have hm2 : (q2 : Int) * (a : Int) ≤ (R1 : Int) := by omega
    have HR2 := Lib.hid (show (R1 : Int) - (q2 : Int) * (a : Int) = (r2 : Int) from by omega)
    have HFIN := Lib.hid (show (h * 18446744073709551616 + l) / y = Q1 * 4294967296 + (R1 * 4294967296 + f) / Y from by
      rw [HV.out, ED.out, two_digits hY0, ← hQ1, ← hR1])
    have hRMi : (R1 : Int) ≤ 18446744073709551615 := by omega
    have HRY := Lib.hid hRY
    clear hQ1 hR1 hY0 hRY hRM hS2 hq2 hr2 hq64 hqa hcast
    go_upto_region 22 with fail
    rw [HSUB.out]
    go_upto_region 23 with fail
    rw [HQ2.out]
    go_upto_block 2 with fail
    rw [HR2.out]
    clear hRMi hm1 hm2
    go_cut [18] (fun sq wx => sq = .int .u64 (((R1 * 4294967296 + f) / Y : Nat) : Int) ∧ wx = w)
    case first =>
      go_wp2_with fail
      go_loop [18, 16] (fun qv rv => ∃ q r : Nat, qv = .int .u64 q ∧ rv = .int .u64 r ∧ Dig Y R1 f q r) (fun qv _ => (intOf qv).toNat)
      case atStart => exact ⟨_, _, rfl, rfl, HS2.out⟩
      case round =>
        obtain ⟨q, r, rfl, rfl, hD⟩ := hrel
        have HD := Lib.hid hD
        have hq1 : (q : Int) ≤ 4294967297 := by have := hD.qs; omega
        have hr1 : (r : Int) < 4294967296 := by have := hD.rs; omega
        have hd2 := HD2.out
        have hmul : ((q * b : Nat) : Int) = (q : Int) * (b : Int) := by simp
        have hp0 : (0 : Int) ≤ (q : Int) * (b : Int) := by omega
        have hp1 : (q : Int) * (b : Int) ≤ 18446744073709551615 := by
          have : q * b ≤ 4294967297 * 4294967295 := Nat.mul_le_mul hD.qs (by omega)
          omega
        clear hD hd2
        have hbI : (b : Int) < 4294967296 := by omega
        have haI : (a : Int) < 4294967296 := by omega
        have hdI : (f : Int) < 4294967296 := by omega
        by_cases hge : (4294967296 : Int) ≤ (q : Int)
        · have ht : 4294967296 ≤ q ∨ 4294967296 * r + f < q * (Y % 4294967296) := .inl (by omega)
          have hd1 : (1 : Int) ≤ (q : Int) := by have := (HD.out.down HRY.out HF2.out ht).1; omega
          by_cases hbr : (4294967296 : Int) ≤ (r : Int) + (a : Int)
          · have HX := Lib.hid (HD.out.broke HRY.out HF2.out ht (by rw [← EA.out]; omega))
            clear hmul ht HD
            go_wp2_with fail
            go_meet
            exact ⟨by rw [← HX.out]; go_num, rfl⟩
          · have HN := Lib.hid (HD.out.next HRY.out HF2.out ht (by rw [← EA.out]; omega))
            rw [← EA.out] at HN
            clear hmul ht HD
            go_wp2_with fail
            go_round
            case rel => exact ⟨q - 1, r + a, by go_num, by go_num, HN.out⟩
            case measure => simp [intOf]; omega
        · by_cases hlt : 4294967296 * (r : Int) + (f : Int) < (q : Int) * (b : Int)
          · have ht : 4294967296 ≤ q ∨ 4294967296 * r + f < q * (Y % 4294967296) := .inr (by rw [← EB.out]; omega)
            have hd1 : (1 : Int) ≤ (q : Int) := by have := (HD.out.down HRY.out HF2.out ht).1; omega
            by_cases hbr : (4294967296 : Int) ≤ (r : Int) + (a : Int)
            · have HX := Lib.hid (HD.out.broke HRY.out HF2.out ht (by rw [← EA.out]; omega))
              clear hmul ht HD
              go_wp2_with fail
              go_meet
              exact ⟨by rw [← HX.out]; go_num, rfl⟩
            · have HN := Lib.hid (HD.out.next HRY.out HF2.out ht (by rw [← EA.out]; omega))
              rw [← EA.out] at HN
              clear hmul ht HD
              go_wp2_with fail
              go_round
              case rel => exact ⟨q - 1, r + a, by go_num, by go_num, HN.out⟩
              case measure => simp [intOf]; omega
          · have HX := Lib.hid (HD.out.done HRY.out (by rw [← EB.out]; omega))
            have hlt := Int.not_lt.1 hlt
            clear hmul HD
            go_wp2_with fail
            go_meet
            exact ⟨by rw [← HX.out], rfl⟩
    case rest =>
      obtain ⟨rfl, hwc⟩ := hcut
      obtain rfl := hwc.symm
      obtain ⟨Q0, hQ0⟩ : ∃ Q0 : Nat, Q0 = (R1 * 4294967296 + f) / Y := ⟨_, rfl⟩
      rw [← hQ0]
      have hQ0B : (Q0 : Int) < 4294967296 := by have := digit_lt HRY.out HF2.out; rw [← hQ0] at this; omega
      have HFIN2 := Lib.hid (show ((((h * 18446744073709551616 + l) / y : Nat)) : Int) = (Q1 : Int) * 4294967296 + (Q0 : Int) from by rw [HFIN.out, ← hQ0]; simp)
      clear hQ0
      have hs64 := HS64.out
      go_wp2_with fail
      go_ret2
      exact ⟨_, ret_two HFIN2.out.symm rfl, Below.refl _ _⟩

theorem div_zero (l y : Nat) (hl : l < 18446744073709551616) (hy : y < 18446744073709551616) (hy0 : 0 < y) (w : World) :
    Calls Try.prog 20 #[.int .u64 0, .int .u64 l, .int .u64 y] w (DivGives w (l / y)) := by
  have hyi : ((y : Int) == 0) = false := by simp; omega
  have hyi2 : decide ((y : Int) ≤ 0) = false := by simp; omega
  have HQ := Lib.hid (show IntKind.u64.wrap ((l : Int) / (y : Int)) = ((l / y : Nat) : Int) from by rw [← wrap_nat (Nat.lt_of_le_of_lt (Nat.div_le_self l y) hl)]; simp)
  go_enter Try.func20, Try.ntmps20
  go_upto_region 6 with fail
  refine wp_region_later (by kernel_rfl) (by kernel_rfl) (Below.refl _ _) ?_
  repeat (first
    | go_big_quiet_skip
    | (go_big_quiet_want; (go_big_quiet_op; go_big_quiet_on)))
  refine wpQuiet_nil ?_
  rintro ⟨W6, hb6⟩
  dsimp only
  go_wp2_with fail
  go_ret2
  exact ⟨_, ret_two HQ.out rfl, hb6⟩
theorem div_any (h l y : Nat) (hh : h < y) (hl : l < 18446744073709551616) (hy : y < 18446744073709551616) (w : World) :
    Calls Try.prog 20 #[.int .u64 h, .int .u64 l, .int .u64 y] w (DivGives w ((h * 18446744073709551616 + l) / y)) := by
  by_cases h0 : h = 0
  · subst h0
    have := div_zero l y hl hy hh w
    rwa [← show (0 * 18446744073709551616 + l) / y = l / y from by rw [Nat.zero_mul, Nat.zero_add]] at this
  · exact div_yes h l y hh hl hy (by omega) w

end Go.Proofs.Ytkolhkeijmoccaa
