/- The contracts of tick's functions and of the document's answer. -/
import Derived.Test.YtjekknakohaklaaRows
import Derived.Test.YtjekknakohaklaaTickLaw
import Derived.WalkKit
import Derived.WalkLawsBesides
import Derived.WalkSpells
import Derived.Lib.Hide
import Derived.Outline
namespace Go.Proofs.Ytjekknakohaklaa
open Go.RowKit
open TickLaw
set_option linter.unusedVariables false

theorem ret_int {k : IntKind} {a b : Int} (h : a = b) : Ending.returned (.int k a) = .returned (.int k b) := by rw [h]

set_option maxHeartbeats 400000 in
theorem wait_any (base most n : Int) (w : World) (hb0 : base ≤ 9223372036854775807) (hm0 : most ≤ 9223372036854775807) (hn0 : n ≤ 9223372036854775807) :
    Calls Try.prog 5 #[.int .i64 base, .int .i64 most, .int .i64 n] w fun e w' => e = .returned (.int .i64 (wt base most n)) ∧ w = w' := by
  by_cases hn : n < 1
  · go_enter Try.func5, Try.ntmps5
    go_wp2
    go_ret
    exact ⟨ret_int (wt_zero (.inl hn)).symm, rfl⟩
  by_cases hb : base < 1
  · go_enter Try.func5, Try.ntmps5
    go_wp2
    go_ret
    exact ⟨ret_int (wt_zero (.inr (.inl hb))).symm, rfl⟩
  by_cases hm : most < 1
  · go_enter Try.func5, Try.ntmps5
    go_wp2
    go_ret
    exact ⟨ret_int (wt_zero (.inr (.inr hm))).symm, rfl⟩
  have h1 : 1 ≤ n := by omega
  have h2 : 1 ≤ base := by omega
  have h3 : 1 ≤ most := by omega
  clear hn hb hm
  go_enter Try.func5, Try.ntmps5
  go_wp2
  all_goals
    go_loop [7, 24] (fun x i => ∃ k : Nat, (k : Int) ≤ 64 ∧ (k : Int) ≤ n - 1 ∧ i = .int .i64 k ∧ x = .int .i64 (dbl base most k)) (fun _ i => 64 - (intOf i).toNat)
    case atStart => exact ⟨0, by omega, by omega, rfl, by rw [dbl_zero]; first | rw [show min base most = base by omega] | rw [show min base most = most by omega]⟩
    case round =>
      obtain ⟨k, hk1, hk2, rfl, rfl⟩ := hrel
      have hd := dbl_bd base most k h2 h3
      have HS := Lib.hid (dbl_succ base most k h2 h3)
      go_wp2
      · go_round
        case rel => exact ⟨k + 1, by omega, by omega, by go_num, by rw [HS.out]; congr 1; split <;> omega⟩
        case measure => simp [intOf]; omega
      · go_ret
        refine ⟨ret_int ?_, rfl⟩
        rw [wt_dbl h1 h2 h3]
        first
          | rw [show (n - 1).toNat = k by omega]
          | rw [dbl_64 base most k h2 hm0 (by omega), dbl_64 base most _ h2 hm0 (by omega)]

set_option maxHeartbeats 400000 in
theorem refWait_any (base most n : Int) (w : World) (hb0 : base ≤ 9223372036854775807) (hm0 : most ≤ 9223372036854775807) (hn0 : n ≤ 9223372036854775807) :
    Calls Try.prog 6 #[.int .i64 base, .int .i64 most, .int .i64 n] w fun e w' => e = .returned (.int .i64 (wt base most n)) ∧ w = w' := by
  by_cases hn : n < 1
  · go_enter Try.func6, Try.ntmps6
    go_wp2
    go_ret
    exact ⟨ret_int (wt_zero (.inl hn)).symm, rfl⟩
  by_cases hb : base < 1
  · go_enter Try.func6, Try.ntmps6
    go_wp2
    go_ret
    exact ⟨ret_int (wt_zero (.inr (.inl hb))).symm, rfl⟩
  by_cases hm : most < 1
  · go_enter Try.func6, Try.ntmps6
    go_wp2
    go_ret
    exact ⟨ret_int (wt_zero (.inr (.inr hm))).symm, rfl⟩
  have h1 : 1 ≤ n := by omega
  have h2 : 1 ≤ base := by omega
  have h3 : 1 ≤ most := by omega
  clear hn hb hm
  go_enter Try.func6, Try.ntmps6
  go_wp2
  go_loop [7, 8] (fun x i => ∃ (k : Nat) (y : Int), (k : Int) ≤ n - 1 ∧ i = .int .i64 (k + 1) ∧ x = .int .i64 y ∧ 1 ≤ y ∧ y ≤ 9223372036854775807 ∧ min y most = dbl base most k) (fun _ i => (n - intOf i).toNat)
  case atStart => exact ⟨0, base, by omega, rfl, rfl, h2, hb0, by rw [dbl_zero]⟩
  case round =>
    obtain ⟨k, y, hk1, rfl, rfl, hy1, hy2, hy3⟩ := hrel
    have HY := Lib.hid hy3
    clear hy3
    have HS := Lib.hid (dbl_succ base most k h2 h3)
    by_cases hlt : y < most ∧ (k : Int) + 1 < n
    · obtain ⟨ha, hb⟩ := hlt
      by_cases hq : most / 2 < y
      all_goals
        go_wp2
        go_round
        case rel => exact ⟨k + 1, _, by omega, by go_num, rfl, by omega, by omega, by rw [HS.out, ← HY.out]; omega⟩
        case measure => simp [intOf]; omega
    · have hres : wt base most n = min y most := by
        rw [wt_dbl h1 h2 h3, HY.out]
        by_cases h : n - 1 = k
        · rw [show (n - 1).toNat = k by omega]
        · have hy := HY.out
          have h4 := dbl_mono base most (j := k) (k := (n - 1).toNat) h2 (by omega)
          have h5 := dbl_bd base most (n - 1).toNat h2 h3
          omega
      have HR := Lib.hid hres
      clear hres
      by_cases hy : y < most
      · have hz : ¬ (k : Int) + 1 < n := by omega
        clear hlt
        go_wp2
        all_goals
          go_ret
          refine ⟨ret_int ?_, rfl⟩
          rw [HR.out]; omega
      · clear hlt
        go_wp2
        all_goals
          go_ret
          refine ⟨ret_int ?_, rfl⟩
          rw [HR.out]; omega

set_option maxHeartbeats 400000 in
theorem rounds_any (base most : Int) (w : World) (hb0 : base ≤ 9223372036854775807) (hm0 : most ≤ 9223372036854775807) :
    Calls Try.prog 7 #[.int .i64 base, .int .i64 most] w fun e w' => e = .returned (.int .i64 (rdv base most)) ∧ w = w' := by
  by_cases hb : base < 1
  · go_enter Try.func7, Try.ntmps7
    go_wp2
    go_ret
    exact ⟨ret_int (rdv_zero (.inl hb)).symm, rfl⟩
  by_cases hm : most < 1
  · go_enter Try.func7, Try.ntmps7
    go_wp2
    go_ret
    exact ⟨ret_int (rdv_zero (.inr hm)).symm, rfl⟩
  have h2 : 1 ≤ base := by omega
  have h3 : 1 ≤ most := by omega
  clear hb hm
  go_enter Try.func7, Try.ntmps7
  go_wp2
  go_loop [5, 12] (fun x i => ∃ k : Nat, k ≤ 63 ∧ i = .int .i64 k ∧ Hid (∀ j, j < k → dbl base most j < most)) (fun _ i => 64 - (intOf i).toNat)
  case atStart => exact ⟨0, by omega, rfl, Lib.hid (fun j hj => by omega)⟩
  case round =>
    obtain ⟨k, hk1, rfl, hall⟩ := hrel
    have hw := wt_dbl (n := (k : Int) + 1) (base := base) (most := most) (by omega) h2 h3
    rw [show ((k : Int) + 1 - 1).toNat = k by omega] at hw
    have HW := Lib.hid hw
    clear hw
    have hd := dbl_bd base most k h2 h3
    by_cases hlt : dbl base most k < most
    · have hkk : k < 63 := by
        by_cases h : k = 63
        · have := dbl_63 base most h2 hm0; subst h; omega
        · omega
      have hbool : (wt base most ((k : Int) + 1) == most) = false := by rw [HW.out]; simp; omega
      go_wp2_with (go_at_call 5; refine (wait_any _ _ _ _ (by omega) (by omega) (by omega)).mono ?_; rintro e w' ⟨rfl, rfl⟩)
      go_round
      case rel => exact ⟨k + 1, by omega, by go_num, Lib.hid (fun j hj => by
        by_cases h : j = k
        · subst h; exact hlt
        · exact hall.out j (by omega))⟩
      case measure => simp [intOf]; omega
    · have hbool : (wt base most ((k : Int) + 1) == most) = true := by rw [HW.out]; simp; omega
      have HR := Lib.hid (rdv_is h2 h3 hm0 hall.out hlt)
      go_wp2_with (go_at_call 5; refine (wait_any _ _ _ _ (by omega) (by omega) (by omega)).mono ?_; rintro e w' ⟨rfl, rfl⟩)
      go_ret
      exact ⟨ret_int HR.out.symm, rfl⟩

set_option maxHeartbeats 400000 in
theorem refRounds_any (base most : Int) (w : World) (hb0 : base ≤ 9223372036854775807) (hm0 : most ≤ 9223372036854775807) :
    Calls Try.prog 8 #[.int .i64 base, .int .i64 most] w fun e w' => e = .returned (.int .i64 (rdv base most)) ∧ w = w' := by
  by_cases hb : base < 1
  · go_enter Try.func8, Try.ntmps8
    go_wp2
    go_ret
    exact ⟨ret_int (rdv_zero (.inl hb)).symm, rfl⟩
  by_cases hm : most < 1
  · go_enter Try.func8, Try.ntmps8
    go_wp2
    go_ret
    exact ⟨ret_int (rdv_zero (.inr hm)).symm, rfl⟩
  have h2 : 1 ≤ base := by omega
  have h3 : 1 ≤ most := by omega
  clear hb hm
  go_enter Try.func8, Try.ntmps8
  go_wp2
  go_loop [5] (fun i => ∃ k : Nat, k ≤ 63 ∧ i = .int .i64 (k + 1) ∧ Hid (∀ j, j < k → dbl base most j < most)) (fun i => 65 - (intOf i).toNat)
  case atStart => exact ⟨0, by omega, rfl, Lib.hid (fun j hj => by omega)⟩
  case round =>
    obtain ⟨k, hk1, rfl, hall⟩ := hrel
    have hw := wt_dbl (n := (k : Int) + 1) (base := base) (most := most) (by omega) h2 h3
    rw [show ((k : Int) + 1 - 1).toNat = k by omega] at hw
    have HW := Lib.hid hw
    have hd := dbl_bd base most k h2 h3
    by_cases hlt : dbl base most k < most
    · have hkk : k < 63 := by
        by_cases h : k = 63
        · have := dbl_63 base most h2 hm0; subst h; omega
        · omega
      have hbool : wt base most ((k : Int) + 1) < most := by rw [hw]; omega
      clear hw
      go_wp2_with (go_at_call 6; refine (refWait_any _ _ _ _ (by omega) (by omega) (by omega)).mono ?_; rintro e w' ⟨rfl, rfl⟩)
      go_round
      case rel => exact ⟨k + 1, by omega, by go_num, Lib.hid (fun j hj => by
        by_cases h : j = k
        · subst h; exact hlt
        · exact hall.out j (by omega))⟩
      case measure => simp [intOf]; omega
    · have hbool : ¬ wt base most ((k : Int) + 1) < most := by rw [hw]; omega
      clear hw
      have HR := Lib.hid (rdv_is h2 h3 hm0 hall.out hlt)
      go_wp2_with (go_at_call 6; refine (refWait_any _ _ _ _ (by omega) (by omega) (by omega)).mono ?_; rintro e w' ⟨rfl, rfl⟩)
      go_ret
      exact ⟨ret_int HR.out.symm, rfl⟩

def addv (now n : Int) : Int := min 18446744073709551615 (now + max n 0)
def leftv (now a : Int) : Int := max a now - now

theorem add_any (now n : Int) (w : World) (h0 : 0 ≤ now) (h1 : now ≤ 18446744073709551615) (h3 : n ≤ 9223372036854775807) :
    Calls Try.prog 10 #[.int .u64 now, .int .i64 n] w fun e w' => e = .returned (.int .u64 (addv now n)) ∧ w = w' := by
  by_cases hn : n < 0
  · go_enter Try.func10, Try.ntmps10
    go_wp2
    go_ret
    exact ⟨ret_int (by unfold addv; omega), rfl⟩
  go_enter Try.func10, Try.ntmps10
  go_wp2
  all_goals
    go_ret
    exact ⟨ret_int (by unfold addv; omega), rfl⟩

theorem refAdd_any (now n : Int) (w : World) (h0 : 0 ≤ now) (h1 : now ≤ 18446744073709551615) (h3 : n ≤ 9223372036854775807) :
    Calls Try.prog 11 #[.int .u64 now, .int .i64 n] w fun e w' => e = .returned (.int .u64 (addv now n)) ∧ w = w' := by
  by_cases hn : n < 0
  · go_enter Try.func11, Try.ntmps11
    go_wp2
    go_ret
    exact ⟨ret_int (by unfold addv; omega), rfl⟩
  by_cases hs : now + n ≤ 18446744073709551615
  · go_enter Try.func11, Try.ntmps11
    go_wp2
    go_ret
    exact ⟨ret_int (by unfold addv; omega), rfl⟩
  · have hlt : IntKind.u64.wrap (now + n) < now := by simp [IntKind.wrap, IntKind.bits, IntKind.signed]; omega
    go_enter Try.func11, Try.ntmps11
    go_wp2
    go_ret
    exact ⟨ret_int (by unfold addv; omega), rfl⟩

theorem left_any (now a : Int) (w : World) (h0 : 0 ≤ now) (h1 : now ≤ 18446744073709551615) (h2 : 0 ≤ a) (h3 : a ≤ 18446744073709551615) :
    Calls Try.prog 12 #[.int .u64 now, .int .u64 a] w fun e w' => e = .returned (.int .u64 (leftv now a)) ∧ w = w' := by
  by_cases hn : a < now
  · go_enter Try.func12, Try.ntmps12
    go_wp2
    go_ret
    exact ⟨ret_int (by unfold leftv; omega), rfl⟩
  · go_enter Try.func12, Try.ntmps12
    go_wp2
    go_ret
    exact ⟨ret_int (by unfold leftv; omega), rfl⟩

theorem refLeft_any (now a : Int) (w : World) (h0 : 0 ≤ now) (h1 : now ≤ 18446744073709551615) (h2 : 0 ≤ a) (h3 : a ≤ 18446744073709551615) :
    Calls Try.prog 13 #[.int .u64 now, .int .u64 a] w fun e w' => e = .returned (.int .u64 (leftv now a)) ∧ w = w' := by
  by_cases hn : a ≤ now
  · go_enter Try.func13, Try.ntmps13
    go_wp2
    go_ret
    exact ⟨ret_int (by unfold leftv; omega), rfl⟩
  · go_enter Try.func13, Try.ntmps13
    go_wp2
    go_ret
    exact ⟨ret_int (by unfold leftv; omega), rfl⟩

theorem live_any (w : World) :
    Calls Try.prog 9 #[] w fun e w' => e = .returned (.bool true) ∧ w = w' := by
  have e1 : wt 3 20 1 = 3 := by decide
  have e2 : wt 3 20 4 = 20 := by decide
  have e3 : rdv 3 20 = 4 := by decide
  have e4 : addv 18446744073709551614 5 = 18446744073709551615 := by decide
  go_enter Try.func9, Try.ntmps9
  go_wp2_with (first | (go_at_call 5; refine (wait_any _ _ _ _ (by omega) (by omega) (by omega)).mono ?_; rintro e w' ⟨rfl, rfl⟩) | (go_at_call 7; refine (rounds_any _ _ _ (by omega) (by omega)).mono ?_; rintro e w' ⟨rfl, rfl⟩) | (go_at_call 10; refine (add_any _ _ _ (by omega) (by omega) (by omega)).mono ?_; rintro e w' ⟨rfl, rfl⟩))
  go_ret
  exact ⟨rfl, rfl⟩

/-- The first statement's walk. -/
theorem tickWaits_walk (base most n : Int) (w : World) (hb0 : base ≤ 9223372036854775807) (hm0 : most ≤ 9223372036854775807) (hn0 : n ≤ 9223372036854775807) :
    Calls Try.prog 3 #[.int .i64 base, .int .i64 most, .int .i64 n] w fun e w' => e = .returned (.bool true) ∧ w = w' := by
  by_cases h1 : n < 1
  · go_enter Try.func3, Try.ntmps3
    go_wp2_with (first | (go_at_call 5; refine (wait_any _ _ _ _ (by omega) (by omega) (by omega)).mono ?_; rintro e w' ⟨rfl, rfl⟩) | (go_at_call 6; refine (refWait_any _ _ _ _ (by omega) (by omega) (by omega)).mono ?_; rintro e w' ⟨rfl, rfl⟩) | (go_at_call 7; refine (rounds_any _ _ _ (by omega) (by omega)).mono ?_; rintro e w' ⟨rfl, rfl⟩) | (go_at_call 8; refine (refRounds_any _ _ _ (by omega) (by omega)).mono ?_; rintro e w' ⟨rfl, rfl⟩) | (go_at_call 9; refine (live_any _).mono ?_; rintro e w' ⟨rfl, rfl⟩))
    go_ret
    exact ⟨rfl, rfl⟩
  by_cases h2 : 1000 < n
  · go_enter Try.func3, Try.ntmps3
    go_wp2_with (first | (go_at_call 5; refine (wait_any _ _ _ _ (by omega) (by omega) (by omega)).mono ?_; rintro e w' ⟨rfl, rfl⟩) | (go_at_call 6; refine (refWait_any _ _ _ _ (by omega) (by omega) (by omega)).mono ?_; rintro e w' ⟨rfl, rfl⟩) | (go_at_call 7; refine (rounds_any _ _ _ (by omega) (by omega)).mono ?_; rintro e w' ⟨rfl, rfl⟩) | (go_at_call 8; refine (refRounds_any _ _ _ (by omega) (by omega)).mono ?_; rintro e w' ⟨rfl, rfl⟩) | (go_at_call 9; refine (live_any _).mono ?_; rintro e w' ⟨rfl, rfl⟩))
    go_ret
    exact ⟨rfl, rfl⟩
  obtain ⟨s1, s2, s3⟩ := wt_step base most n (by omega)
  have b1 := (wt_bd base most n).1
  have b2 : wt base most n ≤ 9223372036854775807 := by have := (wt_bd base most n).2; omega
  have b3 := (wt_bd base most (n + 1)).1
  have b4 : wt base most (n + 1) ≤ 9223372036854775807 := by have := (wt_bd base most (n + 1)).2; omega
  by_cases h3 : base < 1
  all_goals by_cases h4 : most < 1
  all_goals
    first | (have s4 : wt base most n ≤ most := by omega) | skip
    clear s3
    go_enter Try.func3, Try.ntmps3
    go_wp2_with (first | (go_at_call 5; refine (wait_any _ _ _ _ (by omega) (by omega) (by omega)).mono ?_; rintro e w' ⟨rfl, rfl⟩) | (go_at_call 6; refine (refWait_any _ _ _ _ (by omega) (by omega) (by omega)).mono ?_; rintro e w' ⟨rfl, rfl⟩) | (go_at_call 7; refine (rounds_any _ _ _ (by omega) (by omega)).mono ?_; rintro e w' ⟨rfl, rfl⟩) | (go_at_call 8; refine (refRounds_any _ _ _ (by omega) (by omega)).mono ?_; rintro e w' ⟨rfl, rfl⟩) | (go_at_call 9; refine (live_any _).mono ?_; rintro e w' ⟨rfl, rfl⟩))
    go_ret
    exact ⟨rfl, rfl⟩

/-- The second statement's walk. -/
theorem tickAdds_walk (now n a : Int) (w : World) (hw0 : 0 ≤ now) (hw1 : now ≤ 18446744073709551615) (hn0 : -9223372036854775808 ≤ n) (hn1 : n ≤ 9223372036854775807) (ha0 : 0 ≤ a) (ha1 : a ≤ 18446744073709551615) :
    Calls Try.prog 4 #[.int .u64 now, .int .i64 n, .int .u64 a] w fun e w' => e = .returned (.bool true) ∧ w = w' := by
  have b1 : 0 ≤ addv now n ∧ addv now n ≤ 18446744073709551615 := by unfold addv; omega
  have b2 : now ≤ addv now n := by unfold addv; omega
  have b3 : leftv now (addv now n) ≤ max n 0 := by unfold addv leftv; omega
  obtain ⟨b4, b5⟩ := b1
  by_cases hn : n < 0
  · have b6 : leftv now (addv now n) ≤ 0 := by omega
    clear b3
    go_enter Try.func4, Try.ntmps4
    go_wp2_with (first | (go_at_call 10; refine (add_any _ _ _ (by omega) (by omega) (by omega)).mono ?_; rintro e w' ⟨rfl, rfl⟩) | (go_at_call 11; refine (refAdd_any _ _ _ (by omega) (by omega) (by omega)).mono ?_; rintro e w' ⟨rfl, rfl⟩) | (go_at_call 12; refine (left_any _ _ _ (by omega) (by omega) (by omega) (by omega)).mono ?_; rintro e w' ⟨rfl, rfl⟩) | (go_at_call 13; refine (refLeft_any _ _ _ (by omega) (by omega) (by omega) (by omega)).mono ?_; rintro e w' ⟨rfl, rfl⟩) | (go_at_call 9; refine (live_any _).mono ?_; rintro e w' ⟨rfl, rfl⟩))
    go_ret
    exact ⟨rfl, rfl⟩
  · have b6 : leftv now (addv now n) ≤ n := by omega
    clear b3
    go_enter Try.func4, Try.ntmps4
    go_wp2_with (first | (go_at_call 10; refine (add_any _ _ _ (by omega) (by omega) (by omega)).mono ?_; rintro e w' ⟨rfl, rfl⟩) | (go_at_call 11; refine (refAdd_any _ _ _ (by omega) (by omega) (by omega)).mono ?_; rintro e w' ⟨rfl, rfl⟩) | (go_at_call 12; refine (left_any _ _ _ (by omega) (by omega) (by omega) (by omega)).mono ?_; rintro e w' ⟨rfl, rfl⟩) | (go_at_call 13; refine (refLeft_any _ _ _ (by omega) (by omega) (by omega) (by omega)).mono ?_; rintro e w' ⟨rfl, rfl⟩) | (go_at_call 9; refine (live_any _).mono ?_; rintro e w' ⟨rfl, rfl⟩))
    go_ret
    exact ⟨rfl, rfl⟩
end Go.Proofs.Ytjekknakohaklaa
