/- The contracts of frac's functions: Near. -/
import Derived.Test.YtkolhkeijmoccaaFracWalks2
set_option linter.unusedVariables false
namespace Go.Proofs.Ytkolhkeijmoccaa
open Go.RowKit
open FracLaw

namespace FracLaw
def room (v w q c : Int) : Int := q * v * w + c * w + c * v
def small (x v y w q c : Int) : Prop := x < 1048576 ∧ v < 1048576 ∧ y < 1048576 ∧ w < 1048576 ∧ q < 1048576 ∧ c < 1048576
instance (x v y w q c : Int) : Decidable (small x v y w q c) := by unfold small; infer_instance
def nearv (x v y w q c : Int) : Bool := decide (v ≠ 0 ∧ w ≠ 0 ∧ small x v y w q c ∧ x * w ≤ y * v + room v w q c ∧ y * v ≤ x * w + room v w q c)

theorem nearv_swap (x v y w q c : Int) : nearv y w x v q c = nearv x v y w q c := by
  unfold nearv
  have : room w v q c = room v w q c := by unfold room; rw [Int.mul_right_comm q w v]; omega
  rw [this]
  apply decide_eq_decide.2
  unfold small
  constructor <;> (rintro ⟨a, b, ⟨c1, c2, c3, c4, c5, c6⟩, d, e⟩; exact ⟨b, a, ⟨c3, c4, c1, c2, c5, c6⟩, e, d⟩)

theorem nearv_more {x v y w q c : Int} (hv : 0 ≤ v) (hw : 0 ≤ w) (hq : q < 1048575) (h : nearv x v y w q c = true) : nearv x v y w (q + 1) c = true := by
  unfold nearv at *
  obtain ⟨a, b, ⟨c1, c2, c3, c4, c5, c6⟩, d, e⟩ := of_decide_eq_true h
  have hr : room v w (q + 1) c = room v w q c + v * w := by unfold room; rw [Int.add_mul, Int.add_mul, Int.one_mul]; omega
  have hm := Int.mul_nonneg hv hw
  exact decide_eq_true ⟨a, b, ⟨c1, c2, c3, c4, by omega, c6⟩, by omega, by omega⟩

theorem prod2 {x y : Int} (hx : 0 ≤ x) (hy : 0 ≤ y) (hx1 : x < 1048576) (hy1 : y < 1048576) : 0 ≤ x * y ∧ x * y ≤ 1099511627776 := by
  refine ⟨Int.mul_nonneg hx hy, ?_⟩
  have := Int.mul_le_mul (Int.le_of_lt hx1) (Int.le_of_lt hy1) hy (by omega)
  omega
theorem prod3 {x y z : Int} (hx : 0 ≤ x) (hy : 0 ≤ y) (hz : 0 ≤ z) (hx1 : x < 1048576) (hy1 : y < 1048576) (hz1 : z < 1048576) : 0 ≤ x * y * z ∧ x * y * z ≤ 1152921504606846976 := by
  obtain ⟨a, b⟩ := prod2 hx hy hx1 hy1
  refine ⟨Int.mul_nonneg a hz, ?_⟩
  have := Int.mul_le_mul b (Int.le_of_lt hz1) hz (by omega)
  omega
end FracLaw

def max6 (a b c d e f : Int) : Int := max (max (max (max (max a b) c) d) e) f
theorem max6_small (x v y w q c : Int) : 1048576 ≤ max6 x v y w q c ↔ ¬ small x v y w q c := by unfold max6 small; omega
theorem big_max (x y : Int) : (if y > x then y else x) = max x y := by omega
theorem max6_eq (ts : Array TypeId) (t : TypeId) (k : IntKind) (a b c d e f : Int) : Builtin.max_ ts t #[.int k a, .int k b, .int k c, .int k d, .int k e, .int k f] = pure (.int k (max6 a b c d e f)) := by
  unfold max6
  simp only [← big_max]
  simp [Builtin.max_, Builtin.max2]
attribute [local go_sem] max6_eq

theorem gap_any (a b : Int) (ha : 0 ≤ a) (hb : 0 ≤ b) (ha1 : a ≤ 18446744073709551615) (hb1 : b ≤ 18446744073709551615) (w : World) :
    Calls Try.prog 19 #[.int .u64 a, .int .u64 b] w fun e w' => e = .returned (.int .u64 (max a b - min a b)) ∧ w = w' := by
  go_enter Try.func19, Try.ntmps19
  go_wp2
  go_ret
  exact ⟨ret_int (by omega), rfl⟩

theorem near_no (x v y w q c : Int) (h : v = 0 ∨ w = 0 ∨ ¬ small x v y w q c) (W : World) :
    Calls Try.prog 9 #[.int .u64 x, .int .u64 v, .int .u64 y, .int .u64 w, .int .u64 q, .int .u64 c] W fun e w' => e = .returned (.bool false) ∧ W = w' := by
  by_cases hv : v = 0
  · subst hv
    go_enter Try.func9, Try.ntmps9
    go_wp2
    all_goals (go_ret; exact ⟨rfl, rfl⟩)
  · by_cases hw : w = 0
    · subst hw
      go_enter Try.func9, Try.ntmps9
      go_wp2
      all_goals (go_ret; exact ⟨rfl, rfl⟩)
    · have hs : ¬ small x v y w q c := by rcases h with h | h | h; exact absurd h hv; exact absurd h hw; exact h
      have hs := (max6_small x v y w q c).2 hs
      have hvb : (v == 0) = false := by simpa using hv
      have hwb : (w == 0) = false := by simpa using hw
      clear h hv hw
      go_enter Try.func9, Try.ntmps9
      go_wp2
      all_goals (go_ret; exact ⟨rfl, rfl⟩)

theorem near_yes (x v y w q c : Int) (h0 : 0 ≤ x) (h1 : 0 ≤ v) (h2 : 0 ≤ y) (h3 : 0 ≤ w) (h4 : 0 ≤ q) (h5 : 0 ≤ c) (hv : v ≠ 0) (hw : w ≠ 0) (hs : small x v y w q c) (W : World) :
    Calls Try.prog 9 #[.int .u64 x, .int .u64 v, .int .u64 y, .int .u64 w, .int .u64 q, .int .u64 c] W fun e w' => e = .returned (.bool (nearv x v y w q c)) ∧ W = w' := by
  obtain ⟨c1, c2, c3, c4, c5, c6⟩ := id hs
  obtain ⟨p1, q1⟩ := prod2 h0 h3 c1 c4
  obtain ⟨p2, q2⟩ := prod2 h2 h1 c3 c2
  obtain ⟨p3, q3⟩ := prod2 h4 h1 c5 c2
  obtain ⟨p4, q4⟩ := prod3 h4 h1 h3 c5 c2 c4
  obtain ⟨p5, q5⟩ := prod2 h5 h3 c6 c4
  obtain ⟨p6, q6⟩ := prod2 h5 h1 c6 c2
  have hvb : (v == 0) = false := by simpa using hv
  have hwb : (w == 0) = false := by simpa using hw
  have HS := Lib.hid hs
  have hm : max6 x v y w q c < 1048576 := Int.not_le.1 (fun e => (max6_small x v y w q c).1 e hs)
  clear hs
  go_enter Try.func9, Try.ntmps9
  go_wp2_with (go_at_call 19; refine (gap_any _ _ (by omega) (by omega) (by omega) (by omega) _).mono ?_; rintro e w' ⟨rfl, rfl⟩)
  go_ret
  refine ⟨ret_bool ?_, rfl⟩
  unfold nearv room
  have hs := HS.out
  apply decide_eq_decide.2
  constructor
  · intro h; exact ⟨hv, hw, hs, by omega, by omega⟩
  · rintro ⟨_, _, _, h1, h2⟩; omega

theorem nearv_no {x v y w q c : Int} (h : v = 0 ∨ w = 0 ∨ ¬ small x v y w q c) : nearv x v y w q c = false := by
  unfold nearv
  apply decide_eq_false
  rintro ⟨h1, h2, h3, _⟩
  rcases h with h | h | h
  exact h1 h; exact h2 h; exact h h3

theorem near_any (x v y w q c : Int) (h0 : 0 ≤ x) (h1 : 0 ≤ v) (h2 : 0 ≤ y) (h3 : 0 ≤ w) (h4 : 0 ≤ q) (h5 : 0 ≤ c) (W : World) :
    Calls Try.prog 9 #[.int .u64 x, .int .u64 v, .int .u64 y, .int .u64 w, .int .u64 q, .int .u64 c] W fun e w' => e = .returned (.bool (nearv x v y w q c)) ∧ W = w' := by
  by_cases h : v = 0 ∨ w = 0 ∨ ¬ small x v y w q c
  · rw [nearv_no h]; exact near_no x v y w q c h W
  · have hv : v ≠ 0 := fun e => h (.inl e)
    have hw : w ≠ 0 := fun e => h (.inr (.inl e))
    have hs : small x v y w q c := Decidable.byContradiction fun e => h (.inr (.inr e))
    exact near_yes x v y w q c h0 h1 h2 h3 h4 h5 hv hw hs W

def at6 (l : List Int) (k : Nat) : Int := l.getD k 0
theorem six_cell (x v y w q c : Int) (t : TypeId) (W : World) (k : Nat) (hk : k < 6) : (W.alloc (.cells #[.int .u64 x, .int .u64 v, .int .u64 y, .int .u64 w, .int .u64 q, .int .u64 c] t)).cell? ⟨W.heap.size, k, none⟩ = some (.int .u64 (at6 [x, v, y, w, q, c] k)) := by
  rw [World.cell?_alloc_new]
  rcases k with _ | _ | _ | _ | _ | _ | k
  all_goals first | rfl | omega
theorem six_small {x v y w q c : Int} (h : ∀ j, j < 6 → at6 [x, v, y, w, q, c] j < 1048576) : small x v y w q c := ⟨h 0 (by omega), h 1 (by omega), h 2 (by omega), h 3 (by omega), h 4 (by omega), h 5 (by omega)⟩
theorem six_not {x v y w q c : Int} {j : Nat} (hj : j < 6) (h : 1048576 ≤ at6 [x, v, y, w, q, c] j) : ¬ small x v y w q c := by
  rintro ⟨h0, h1, h2, h3, h4, h5⟩
  rcases j with _ | _ | _ | _ | _ | _ | j
  all_goals simp only [at6, List.getD_cons_zero, List.getD_cons_succ] at h
  all_goals omega

set_option maxHeartbeats 1000000 in
theorem refNear_any (x v y w q c : Int) (h0 : 0 ≤ x) (h1 : 0 ≤ v) (h2 : 0 ≤ y) (h3 : 0 ≤ w) (h4 : 0 ≤ q) (h5 : 0 ≤ c) (W : World) :
    Calls Try.prog 10 #[.int .u64 x, .int .u64 v, .int .u64 y, .int .u64 w, .int .u64 q, .int .u64 c] W fun e w' => e = .returned (.bool (nearv x v y w q c)) ∧ Below W.heap.size W w' := by
  have hc := fun k hk => six_cell x v y w q c 22 W k hk
  go_enter Try.func10, Try.ntmps10
  go_wp2
  have hB : Below W.heap.size W (W.alloc (.cells #[.int .u64 x, .int .u64 v, .int .u64 y, .int .u64 w, .int .u64 q, .int .u64 c] 22)) := (Below.refl _ _).alloc (Nat.le_refl _) _
  generalize W.alloc (.cells #[.int .u64 x, .int .u64 v, .int .u64 y, .int .u64 w, .int .u64 q, .int .u64 c] 22) = W1 at hc hB ⊢
  go_loop [14] (fun i => ∃ k : Nat, k ≤ 6 ∧ i = .int .i64 k ∧ ∀ j, j < k → at6 [x, v, y, w, q, c] j < 1048576) (fun i => 6 - (intOf i).toNat)
  case atStart => exact ⟨0, by omega, rfl, fun j hj => by omega⟩
  case round =>
    obtain ⟨k, hk, rfl, hlow⟩ := hrel
    have hlow := Lib.hid hlow
    by_cases hlt : k < 6
    · have hk1 := hc k hlt
      clear hc
      by_cases hb : 1048576 ≤ at6 [x, v, y, w, q, c] k
      · have hn := Lib.hid (nearv_no (.inr (.inr (six_not hlt hb))))
        go_wp2
        go_ret
        exact ⟨ret_bool hn.out.symm, hB⟩
      · go_wp2
        go_round
        case rel => exact ⟨k + 1, by omega, by go_num, fun j hj => by
          rcases Nat.lt_succ_iff_lt_or_eq.1 hj with h | rfl
          · exact hlow.out j h
          · omega⟩
        case measure => simp [intOf]; omega
    · have hk6 : k = 6 := by omega
      subst hk6
      clear hc
      have hs := six_small hlow.out
      by_cases hv : v = 0
      · have hn := Lib.hid (nearv_no (x := x) (y := y) (w := w) (q := q) (c := c) (.inl hv))
        subst hv
        go_wp2
        all_goals (go_ret; exact ⟨ret_bool hn.out.symm, hB⟩)
      by_cases hw : w = 0
      · have hn := Lib.hid (nearv_no (x := x) (y := y) (v := v) (q := q) (c := c) (.inr (.inl hw)))
        subst hw
        go_wp2
        all_goals (go_ret; exact ⟨ret_bool hn.out.symm, hB⟩)
      obtain ⟨c1, c2, c3, c4, c5, c6⟩ := id hs
      obtain ⟨p1, q1⟩ := prod2 h0 h3 c1 c4
      obtain ⟨p2, q2⟩ := prod2 h2 h1 c3 c2
      obtain ⟨p3, q3⟩ := prod2 h4 h1 c5 c2
      obtain ⟨p4, q4⟩ := prod3 h4 h1 h3 c5 c2 c4
      obtain ⟨p5, q5⟩ := prod2 h5 h3 c6 c4
      obtain ⟨p6, q6⟩ := prod2 h5 h1 c6 c2
      have hvb : (v == 0) = false := by simpa using hv
      have hwb : (w == 0) = false := by simpa using hw
      have HS := Lib.hid hs
      clear hs
      by_cases ht : x * w ≤ y * v + (q * v * w + c * w + c * v)
      · go_wp2
        go_ret
        refine ⟨ret_bool ?_, hB⟩
        unfold nearv room
        have hs := HS.out
        apply decide_eq_decide.2
        constructor
        · intro h; exact ⟨hv, hw, hs, by omega, by omega⟩
        · rintro ⟨_, _, _, h1, h2⟩; omega
      · go_wp2
        go_ret
        refine ⟨ret_bool ?_, hB⟩
        unfold nearv room
        symm
        apply decide_eq_false
        rintro ⟨_, _, _, h1, h2⟩; omega


end Go.Proofs.Ytkolhkeijmoccaa
