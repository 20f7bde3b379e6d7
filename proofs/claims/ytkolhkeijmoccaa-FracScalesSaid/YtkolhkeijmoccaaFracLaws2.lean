/- The walks of the statements on fractions, going on. -/
import Derived.Test.YtkolhkeijmoccaaFracLaws
set_option linter.unusedVariables false
namespace Go.Proofs.Ytkolhkeijmoccaa
open Go.RowKit
open FracLaw

attribute [local irreducible] cmpv nearv

theorem compare_at (a b c d : Nat) (ha : a < 18446744073709551616) (hb : b < 18446744073709551616) (hc : c < 18446744073709551616) (hd : d < 18446744073709551616) (k : Int) (hk : cmpv a b c d = k) (w : World) :
    Calls Try.prog 6 #[.int .u64 a, .int .u64 b, .int .u64 c, .int .u64 d] w fun e w' => e = .returned (.int .i64 k) ∧ Below w.heap.size w w' := by
  subst hk; exact compare_any a b c d ha hb hc hd w
theorem refCompare_at (a b c d : Nat) (ha : a < 18446744073709551616) (hb : b < 18446744073709551616) (hc : c < 18446744073709551616) (hd : d < 18446744073709551616) (k : Int) (hk : cmpv a b c d = k) (w : World) :
    Calls Try.prog 7 #[.int .u64 a, .int .u64 b, .int .u64 c, .int .u64 d] w fun e w' => e = .returned (.int .i64 k) ∧ w = w' := by
  subst hk; exact refCompare_any a b c d ha hb hc hd w

theorem four_0 (a b c d : Value) (t : TypeId) (w : World) : (w.alloc (.cells #[a, b, c, d] t)).cell? ⟨w.heap.size, 0, none⟩ = some a := by rw [World.cell?_alloc_new]; rfl
theorem four_1 (a b c d : Value) (t : TypeId) (w : World) : (w.alloc (.cells #[a, b, c, d] t)).cell? ⟨w.heap.size, 1, none⟩ = some b := by rw [World.cell?_alloc_new]; rfl
theorem four_2 (a b c d : Value) (t : TypeId) (w : World) : (w.alloc (.cells #[a, b, c, d] t)).cell? ⟨w.heap.size, 2, none⟩ = some c := by rw [World.cell?_alloc_new]; rfl
theorem four_3 (a b c d : Value) (t : TypeId) (w : World) : (w.alloc (.cells #[a, b, c, d] t)).cell? ⟨w.heap.size, 3, none⟩ = some d := by rw [World.cell?_alloc_new]; rfl

set_option maxRecDepth 100000 in
set_option maxHeartbeats 1000000 in
theorem fracCompares_walk (A B C D : Nat) (hA : A < 18446744073709551616) (hB : B < 18446744073709551616) (hC : C < 18446744073709551616) (hD : D < 18446744073709551616) (w : World) :
    Calls Try.prog 3 #[.agg #[.int .u64 A, .int .u64 B, .int .u64 C, .int .u64 D]] w fun e w' => e = .returned (.bool true) ∧ Below w.heap.size w w' := by
  obtain ⟨k, hk⟩ : ∃ k, cmpv A B C D = k := ⟨_, rfl⟩
  have hk2 : cmpv C D A B = 0 - k := by rw [cmpv_swap, hk]
  obtain ⟨kb1, kb2⟩ := cmpv_bd A B C D
  rw [hk] at kb1 kb2
  have HK := Lib.hid hk
  have HK2 := Lib.hid hk2
  clear hk hk2
  have c0 := four_0 (.int .u64 A) (.int .u64 B) (.int .u64 C) (.int .u64 D) 24 w
  have c1 := four_1 (.int .u64 A) (.int .u64 B) (.int .u64 C) (.int .u64 D) 24 w
  have c2 := four_2 (.int .u64 A) (.int .u64 B) (.int .u64 C) (.int .u64 D) 24 w
  have c3 := four_3 (.int .u64 A) (.int .u64 B) (.int .u64 C) (.int .u64 D) 24 w
  have hW : Below w.heap.size w (w.alloc (.cells #[.int .u64 A, .int .u64 B, .int .u64 C, .int .u64 D] 24)) := (Below.refl _ _).alloc (Nat.le_refl _) _
  go_enter Try.func3, Try.ntmps3
  go_wp2_with fail
  generalize w.alloc (.cells #[.int .u64 A, .int .u64 B, .int .u64 C, .int .u64 D] 24) = W1 at c0 c1 c2 c3 hW ⊢
  have d0 := fun (x : Later W1) => x.cell c0
  have d1 := fun (x : Later W1) => x.cell c1
  have d2 := fun (x : Later W1) => x.cell c2
  have d3 := fun (x : Later W1) => x.cell c3
  clear c0 c1 c2 c3
  refine wp_region_later (by kernel_rfl) (by kernel_rfl) (Below.refl _ _) ?_
  repeat (first
    | go_big_quiet_skip
    | (go_big_quiet_want; (go_big_quiet_op; first | go_big_quiet_on | go_big_quiet_call (first
        | (go_at_call 6; exact Calls.later (compare_at _ _ _ _ (by assumption) (by assumption) (by assumption) (by assumption) _ (by first | exact HK.out | exact HK2.out) _))
        | (go_at_call 7; exact Calls.later_same (refCompare_at _ _ _ _ (by assumption) (by assumption) (by assumption) (by assumption) _ (by first | exact HK.out | exact HK2.out) _))
        | (go_at_call 8; exact Calls.later (live05_any _))))))
  refine wpQuiet_nil ?_
  rintro ⟨W2, hb2⟩
  dsimp only
  have hW2 := bthen' hW hb2
  go_wp2_with fail
  go_ret
  exact ⟨rfl, hW2⟩

theorem fracCompares_of (A B C D : Int) (w : World) (hb : (Lit.int .u64 A).wf = true ∧ (Lit.int .u64 B).wf = true ∧ (Lit.int .u64 C).wf = true ∧ (Lit.int .u64 D).wf = true) :
    Calls Try.prog 3 #[.agg #[.int .u64 A, .int .u64 B, .int .u64 C, .int .u64 D]] w fun e w' => e = .returned (.bool true) ∧ Below w.heap.size w w' := by
  obtain ⟨hA, hB, hC, hD⟩ := hb
  have b0 := bounds_u64 hA
  have b1 := bounds_u64 hB
  have b2 := bounds_u64 hC
  have b3 := bounds_u64 hD
  obtain ⟨A, rfl⟩ := Int.eq_ofNat_of_zero_le b0.1
  obtain ⟨B, rfl⟩ := Int.eq_ofNat_of_zero_le b1.1
  obtain ⟨C, rfl⟩ := Int.eq_ofNat_of_zero_le b2.1
  obtain ⟨D, rfl⟩ := Int.eq_ofNat_of_zero_le b3.1
  exact fracCompares_walk A B C D (by omega) (by omega) (by omega) (by omega) w

/-! ### FracNear -/
theorem kcell {w1 w2 : World} {g i : Nat} {v : Value} (hb : Below w1.heap.size w1 w2) (hg : w1.cell? ⟨g, i, none⟩ = some v) : w2.cell? ⟨g, i, none⟩ = some v := by
  rw [hb.cell (World.block_lt_of_cell? w1 _ hg), hg]

theorem near_at (x v y w q c : Int) (h0 : 0 ≤ x) (h1 : 0 ≤ v) (h2 : 0 ≤ y) (h3 : 0 ≤ w) (h4 : 0 ≤ q) (h5 : 0 ≤ c) (r : Bool) (hr : nearv x v y w q c = r) (W : World) :
    Calls Try.prog 9 #[.int .u64 x, .int .u64 v, .int .u64 y, .int .u64 w, .int .u64 q, .int .u64 c] W fun e w' => e = .returned (.bool r) ∧ W = w' := by
  subst hr; exact near_any x v y w q c h0 h1 h2 h3 h4 h5 W
theorem refNear_at (x v y w q c : Int) (h0 : 0 ≤ x) (h1 : 0 ≤ v) (h2 : 0 ≤ y) (h3 : 0 ≤ w) (h4 : 0 ≤ q) (h5 : 0 ≤ c) (r : Bool) (hr : nearv x v y w q c = r) (W : World) :
    Calls Try.prog 10 #[.int .u64 x, .int .u64 v, .int .u64 y, .int .u64 w, .int .u64 q, .int .u64 c] W fun e w' => e = .returned (.bool r) ∧ Below W.heap.size W w' := by
  subst hr; exact refNear_any x v y w q c h0 h1 h2 h3 h4 h5 W

set_option maxRecDepth 100000 in
set_option maxHeartbeats 1000000 in
theorem fracNear_walk (A B C D q c : Int) (hA : 0 ≤ A) (hB : 0 ≤ B) (hC : 0 ≤ C) (hD : 0 ≤ D) (hq : 0 ≤ q) (hc : 0 ≤ c) (hq1 : q ≤ 18446744073709551615) (w : World) :
    Calls Try.prog 4 #[.agg #[.int .u64 A, .int .u64 B, .int .u64 C, .int .u64 D], .int .u64 q, .int .u64 c] w fun e w' => e = .returned (.bool true) ∧ Below w.heap.size w w' := by
  obtain ⟨r, hr⟩ : ∃ r, nearv A B C D q c = r := ⟨_, rfl⟩
  have hr2 : nearv C D A B q c = r := by rw [nearv_swap, hr]
  have hr3 : r = true → q < 1048575 → nearv A B C D (q + 1) c = true := fun h h1 => nearv_more hB hD h1 (hr.trans h)
  have HK := Lib.hid hr
  have HK2 := Lib.hid hr2
  have HK3 := Lib.hid hr3
  clear hr hr2 hr3
  have c0 := four_0 (.int .u64 A) (.int .u64 B) (.int .u64 C) (.int .u64 D) 24 w
  have c1 := four_1 (.int .u64 A) (.int .u64 B) (.int .u64 C) (.int .u64 D) 24 w
  have c2 := four_2 (.int .u64 A) (.int .u64 B) (.int .u64 C) (.int .u64 D) 24 w
  have c3 := four_3 (.int .u64 A) (.int .u64 B) (.int .u64 C) (.int .u64 D) 24 w
  have hW : Below w.heap.size w (w.alloc (.cells #[.int .u64 A, .int .u64 B, .int .u64 C, .int .u64 D] 24)) := (Below.refl _ _).alloc (Nat.le_refl _) _
  have start : ∀ (b : Bool), (r = b) → (b = true → q < 1048575 → nearv A B C D (q + 1) c = true) → Calls Try.prog 4 #[.agg #[.int .u64 A, .int .u64 B, .int .u64 C, .int .u64 D], .int .u64 q, .int .u64 c] w fun e w' => e = .returned (.bool true) ∧ Below w.heap.size w w' := by
    intro b hb hm
    clear HK3
    subst hb
    rcases Bool.eq_false_or_eq_true r with h | h
    · subst h
      by_cases hq2 : q < 1048575
      · have HN := Lib.hid (hm rfl hq2)
        clear hm
        go_enter Try.func4, Try.ntmps4
        go_wp2_with fail
        generalize w.alloc (.cells #[.int .u64 A, .int .u64 B, .int .u64 C, .int .u64 D] 24) = W1 at c0 c1 c2 c3 hW ⊢
        go_wp2_with (first
      | (go_at_call 9; refine (near_at _ _ _ _ _ _ (by omega) (by omega) (by omega) (by omega) (by omega) (by omega) _ (by first | exact HK.out | exact HK2.out | exact HN.out) _).mono ?_; rintro e w' ⟨rfl, rfl⟩)
      | (go_at_call 10; refine (refNear_at _ _ _ _ _ _ (by omega) (by omega) (by omega) (by omega) (by omega) (by omega) _ HK.out _).mono ?_; rintro e w2 ⟨rfl, hb2⟩; have d0 := kcell hb2 c0; have d1 := kcell hb2 c1; have d2 := kcell hb2 c2; have d3 := kcell hb2 c3; have hW2 := bthen' hW hb2; clear c0 c1 c2 c3 hb2)
      | (go_at_call 8; refine (live05_any _).mono ?_; rintro e w3 ⟨rfl, hb3⟩; have hW3 := bthen' hW2 hb3))
        go_ret
        exact ⟨rfl, hW3⟩
      · have HN := HK2
        have hq3 : 1048575 ≤ q := Int.not_lt.1 hq2
        clear hm hq2
        go_enter Try.func4, Try.ntmps4
        go_wp2_with fail
        generalize w.alloc (.cells #[.int .u64 A, .int .u64 B, .int .u64 C, .int .u64 D] 24) = W1 at c0 c1 c2 c3 hW ⊢
        go_wp2_with (first
      | (go_at_call 9; refine (near_at _ _ _ _ _ _ (by omega) (by omega) (by omega) (by omega) (by omega) (by omega) _ (by first | exact HK.out | exact HK2.out | exact HN.out) _).mono ?_; rintro e w' ⟨rfl, rfl⟩)
      | (go_at_call 10; refine (refNear_at _ _ _ _ _ _ (by omega) (by omega) (by omega) (by omega) (by omega) (by omega) _ HK.out _).mono ?_; rintro e w2 ⟨rfl, hb2⟩; have d0 := kcell hb2 c0; have d1 := kcell hb2 c1; have d2 := kcell hb2 c2; have d3 := kcell hb2 c3; have hW2 := bthen' hW hb2; clear c0 c1 c2 c3 hb2)
      | (go_at_call 8; refine (live05_any _).mono ?_; rintro e w3 ⟨rfl, hb3⟩; have hW3 := bthen' hW2 hb3))
        go_ret
        exact ⟨rfl, hW3⟩
    · subst h
      have HN := HK2
      clear hm
      go_enter Try.func4, Try.ntmps4
      go_wp2_with fail
      generalize w.alloc (.cells #[.int .u64 A, .int .u64 B, .int .u64 C, .int .u64 D] 24) = W1 at c0 c1 c2 c3 hW ⊢
      go_wp2_with (first
      | (go_at_call 9; refine (near_at _ _ _ _ _ _ (by omega) (by omega) (by omega) (by omega) (by omega) (by omega) _ (by first | exact HK.out | exact HK2.out | exact HN.out) _).mono ?_; rintro e w' ⟨rfl, rfl⟩)
      | (go_at_call 10; refine (refNear_at _ _ _ _ _ _ (by omega) (by omega) (by omega) (by omega) (by omega) (by omega) _ HK.out _).mono ?_; rintro e w2 ⟨rfl, hb2⟩; have d0 := kcell hb2 c0; have d1 := kcell hb2 c1; have d2 := kcell hb2 c2; have d3 := kcell hb2 c3; have hW2 := bthen' hW hb2; clear c0 c1 c2 c3 hb2)
      | (go_at_call 8; refine (live05_any _).mono ?_; rintro e w3 ⟨rfl, hb3⟩; have hW3 := bthen' hW2 hb3))
      go_ret
      exact ⟨rfl, hW3⟩
  exact start r rfl HK3.out

theorem fracNear_of (A B C D q c : Int) (w : World) (hb : (Lit.int .u64 A).wf = true ∧ (Lit.int .u64 B).wf = true ∧ (Lit.int .u64 C).wf = true ∧ (Lit.int .u64 D).wf = true) (w1 : (Lit.int .u64 q).wf = true) (w2 : (Lit.int .u64 c).wf = true) :
    Calls Try.prog 4 #[.agg #[.int .u64 A, .int .u64 B, .int .u64 C, .int .u64 D], .int .u64 q, .int .u64 c] w fun e w' => e = .returned (.bool true) ∧ Below w.heap.size w w' := by
  obtain ⟨hA, hB, hC, hD⟩ := hb
  have b0 := bounds_u64 hA
  have b1 := bounds_u64 hB
  have b2 := bounds_u64 hC
  have b3 := bounds_u64 hD
  have b4 := bounds_u64 w1
  have b5 := bounds_u64 w2
  exact fracNear_walk A B C D q c (by omega) (by omega) (by omega) (by omega) (by omega) (by omega) (by omega) w

end Go.Proofs.Ytkolhkeijmoccaa
