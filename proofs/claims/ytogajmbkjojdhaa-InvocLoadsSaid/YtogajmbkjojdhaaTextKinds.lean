/- The contracts of the kinds of runes. -/
import Derived.Test.YtogajmbkjojdhaaBase
import Derived.Test.YtogajmbkjojdhaaTextLaw
import Derived.BigGuardPart
import Derived.Handy
set_option linter.unusedVariables false
namespace Go.Proofs.Ytogajmbkjojdhaa
open Go.RowKit

def btw (r a b : Int) : Bool := decide (a ≤ r) && decide (r ≤ b)
theorem btw_true {r a b : Int} : btw r a b = true ↔ a ≤ r ∧ r ≤ b := by simp [btw]
theorem btw_false {r a b : Int} : btw r a b = false ↔ ¬ (a ≤ r ∧ r ≤ b) := by rw [← btw_true]; simp

theorem ret_int {k : IntKind} {a b : Int} (h : a = b) : Ending.returned (.int k a) = .returned (.int k b) := by rw [h]
theorem ret_bool {a b : Bool} (h : a = b) : Ending.returned (.bool a) = .returned (.bool b) := by rw [h]

theorem between_any (w : World) (r a b : Int) : Calls Try.prog 81 #[.int .i32 r, .int .i32 a, .int .i32 b] w fun e w' => e = .returned (.bool (btw r a b)) ∧ w = w' := by
  by_cases h1 : a ≤ r
  · by_cases h2 : r ≤ b
    · have hv := Lib.hid (show btw r a b = true from btw_true.2 ⟨h1, h2⟩)
      go_enter Try.func81, Try.ntmps81
      go_wp2_with fail
      go_ret
      exact ⟨ret_bool (by rw [hv.out]), rfl⟩
    · have hv := Lib.hid (show btw r a b = false from btw_false.2 (fun h => h2 h.2))
      go_enter Try.func81, Try.ntmps81
      go_wp2_with fail
      go_ret
      exact ⟨ret_bool (by rw [hv.out]), rfl⟩
  · have hv := Lib.hid (show btw r a b = false from btw_false.2 (fun h => h1 h.1))
    go_enter Try.func81, Try.ntmps81
    go_wp2_with fail
    go_ret
    exact ⟨ret_bool (by rw [hv.out]), rfl⟩

theorem small_eq (r : Int) : smallB r = (btw r 97 122 || (btw r 224 254 && !decide (r = 247)) || (btw r 945 969 && !decide (r = 962)) || btw r 1072 1103) := rfl
theorem great_eq (r : Int) : greatB r = (btw r 65 90 || (btw r 192 222 && !decide (r = 215)) || (btw r 913 937 && !decide (r = 930)) || btw r 1040 1071) := rfl

theorem has_eq (f t b r : Int) : (btw r f t && !decide (r = b)) = (decide (f ≤ r) && decide (r ≤ t) && !decide (r = b)) := rfl

attribute [local irreducible] btw

theorem small_any (w : World) (r : Int) : Calls Try.prog 80 #[.int .i32 r] w fun e w' => e = .returned (.bool (smallB r)) ∧ w = w' := by
  have hq := Lib.hid (small_eq r)
  go_enter Try.func80, Try.ntmps80
  go_wp2_with (go_at_call 81; refine (between_any _ _ _ _).mono ?_; rintro e w' ⟨rfl, rfl⟩)
  all_goals
    go_ret
    exact ⟨ret_bool (by rw [hq.out]; simp_all), rfl⟩

theorem great_any (w : World) (r : Int) : Calls Try.prog 82 #[.int .i32 r] w fun e w' => e = .returned (.bool (greatB r)) ∧ w = w' := by
  have hq := Lib.hid (great_eq r)
  go_enter Try.func82, Try.ntmps82
  go_wp2_with (go_at_call 81; refine (between_any _ _ _ _).mono ?_; rintro e w' ⟨rfl, rfl⟩)
  all_goals
    go_ret
    exact ⟨ret_bool (by rw [hq.out]; simp_all), rfl⟩

attribute [local irreducible] smallB greatB

theorem refKind_any (w : World) (r : Int) : Calls Try.prog 67 #[.int .i32 r] w fun e w' => e = .returned (.int .i64 (kindv r)) ∧ w = w' := by
  by_cases hs : smallB r = true
  · have hk := Lib.hid (show kindv r = 1 from if_pos hs)
    go_enter Try.func67, Try.ntmps67
    go_wp2_with (go_at_call 80; refine (small_any _ _).mono ?_; rintro e w' ⟨rfl, rfl⟩)
    go_ret
    exact ⟨ret_int (by rw [hk.out]), rfl⟩
  · have hs2 : smallB r = false := by simpa using hs
    have hk := Lib.hid (show kindv r = if 48 ≤ r ∧ r ≤ 57 then 2 else if r = 45 ∨ r = 46 then 3 else if greatB r = true then 4 else 0 from if_neg hs)
    clear hs
    go_enter Try.func67, Try.ntmps67
    go_wp2_with (first
      | (go_at_call 80; refine (small_any _ _).mono ?_; rintro e w' ⟨rfl, rfl⟩)
      | (go_at_call 82; refine (great_any _ _).mono ?_; rintro e w' ⟨rfl, rfl⟩)
      | (go_at_call 81; refine (between_any _ _ _ _).mono ?_; rintro e w' ⟨rfl, rfl⟩))
    all_goals
      go_ret
      exact ⟨ret_int (by rw [hk.out]; simp_all [btw_true, btw_false]), rfl⟩

theorem has_any (w : World) (f t b r : Int) : Calls Try.prog 90 #[.agg #[.int .i32 f, .int .i32 t, .int .i32 b], .int .i32 r] w fun e w' => e = .returned (.bool (btw r f t && !decide (r = b))) ∧ Below w.heap.size w w' := by
  have hq := Lib.hid (has_eq f t b r)
  by_cases c1 : f ≤ r
  · by_cases c2 : r ≤ t
    · by_cases c3 : r = b
      · have hv := Lib.hid (show (btw r f t && !decide (r = b)) = false from by rw [hq.out]; simp [c3])
        have c3b : (r != b) = false := by simp [c3]
        clear c3
        go_enter Try.func90, Try.ntmps90
        go_wp2_with fail
        go_ret
        exact ⟨ret_bool (by rw [hv.out]), (Below.refl _ _).alloc (Nat.le_refl _) _⟩
      · have hv := Lib.hid (show (btw r f t && !decide (r = b)) = true from by rw [hq.out]; simp [c1, c2, c3])
        have c3b : (r != b) = true := by simp [c3]
        go_enter Try.func90, Try.ntmps90
        go_wp2_with fail
        go_ret
        exact ⟨ret_bool (by rw [hv.out]), (Below.refl _ _).alloc (Nat.le_refl _) _⟩
    · have hv := Lib.hid (show (btw r f t && !decide (r = b)) = false from by rw [hq.out]; simp [c2])
      go_enter Try.func90, Try.ntmps90
      go_wp2_with fail
      go_ret
      exact ⟨ret_bool (by rw [hv.out]), (Below.refl _ _).alloc (Nat.le_refl _) _⟩
  · have hv := Lib.hid (show (btw r f t && !decide (r = b)) = false from by rw [hq.out]; simp [c1])
    go_enter Try.func90, Try.ntmps90
    go_wp2_with fail
    go_ret
    exact ⟨ret_bool (by rw [hv.out]), (Below.refl _ _).alloc (Nat.le_refl _) _⟩

theorem rows_any (w : World) : Calls Try.prog 89 #[] w fun e w' => e = .returned (.slice (some ⟨w.heap.size, 0, none⟩) 4 4) ∧ Below w.heap.size w w' ∧ w'.heap.size = w.heap.size + 1 ∧
      w'.heap[w.heap.size]? = some (.cells #[.int .i32 97, .int .i32 122, .int .i32 0, .int .i32 224, .int .i32 254, .int .i32 247, .int .i32 945, .int .i32 969, .int .i32 962, .int .i32 1072, .int .i32 1103, .int .i32 0] 127 (0, 0)) := by
  go_enter Try.func89, Try.ntmps89
  go_wp2_with fail
  go_ret
  exact ⟨rfl, (Below.refl _ _).alloc (Nat.le_refl _) _, by simp, heap_alloc_new _ _⟩

def rowFrom (k : Nat) : Int := [97, 224, 945, 1072].getD k 0
def rowTo (k : Nat) : Int := [122, 254, 969, 1103].getD k 0
def rowBut (k : Nat) : Int := [0, 247, 962, 0].getD k 0
def rowHas (k : Nat) (r : Int) : Bool := btw r (rowFrom k) (rowTo k) && !decide (r = rowBut k)
theorem rowHas_none (r : Int) (h : ∀ j, j < 4 → rowHas j r = false) : smallB r = false := by
  have h0 := h 0 (by omega)
  have h1 := h 1 (by omega)
  have h2 := h 2 (by omega)
  have h3 := h 3 (by omega)
  cases hs : smallB r with
  | false => rfl
  | true =>
    rw [smallB_iff] at hs
    simp only [rowHas, rowFrom, rowTo, rowBut, has_eq, List.getD_cons_zero, List.getD_cons_succ, Bool.and_eq_false_iff, decide_eq_false_iff_not, Bool.not_eq_false', decide_eq_true_eq] at h0 h1 h2 h3
    omega
theorem rowHas_some (r : Int) (k : Nat) (hk : k < 4) (h : rowHas k r = true) : smallB r = true := by
  rw [smallB_iff]
  match k, hk with
  | 0, _ | 1, _ | 2, _ | 3, _ =>
    simp only [rowHas, rowFrom, rowTo, rowBut, has_eq, List.getD_cons_zero, List.getD_cons_succ, Bool.and_eq_true, decide_eq_true_eq, Bool.not_eq_true', decide_eq_false_iff_not] at h
    omega
theorem rows_cells {w : World} {g : Nat} {T : TypeId} (hg : w.heap[g]? = some (.cells #[.int .i32 97, .int .i32 122, .int .i32 0, .int .i32 224, .int .i32 254, .int .i32 247, .int .i32 945, .int .i32 969, .int .i32 962, .int .i32 1072, .int .i32 1103, .int .i32 0] T (0, 0))) {k : Nat} (hk : k < 4) :
    w.cell? ⟨g, k * 3, none⟩ = some (.int .i32 (rowFrom k)) ∧ w.cell? ⟨g, k * 3 + 1, none⟩ = some (.int .i32 (rowTo k)) ∧ w.cell? ⟨g, k * 3 + 2, none⟩ = some (.int .i32 (rowBut k)) := by
  refine ⟨?_, ?_, ?_⟩
  all_goals
    rw [cell_of_row w g _ _ T (0, 0) hg]
    match k, hk with
    | 0, _ | 1, _ | 2, _ | 3, _ => rfl

set_option maxHeartbeats 1000000 in
theorem letter_any (w : World) (r : Int) : Calls Try.prog 79 #[.int .i32 r] w fun e w' => e = .returned (.bool (smallB r)) ∧ Below w.heap.size w w' := by
  go_enter Try.func79, Try.ntmps79
  go_wp2_with fail
  go_at_call 89; refine (rows_any _).mono ?_; rintro e W1 ⟨rfl, hb1, hs1, hg1⟩
  go_wp2_with fail
  go_loopw [7] (fun i wr => ∃ k : Nat, k ≤ 4 ∧ i = .int .i64 k ∧ Below w.heap.size w wr ∧ Below W1.heap.size W1 wr ∧ ∀ j, j < k → rowHas j r = false) (fun i _ => 4 - (intOf i).toNat)
  case atStart => exact ⟨0, by omega, rfl, hb1, Below.refl _ _, fun j hj => by omega⟩
  case round =>
    obtain ⟨k, hk, rfl, hW, hW1, hno⟩ := hrel
    have HN := Lib.hid hno
    clear hno
    have hg := hW1.block w.heap.size (by omega)
    rw [hg1] at hg
    by_cases hlt : k < 4
    · obtain ⟨c0, c1, c2⟩ := rows_cells hg hlt
      clear hg1 hg
      cases hh : rowHas k r with
      | true =>
        have HT := Lib.hid (rowHas_some r k hlt hh)
        have hh2 : (btw r (rowFrom k) (rowTo k) && !decide (r = rowBut k)) = true := hh
        clear hh
        go_wp2_with (go_at_call 90; refine (has_any _ _ _ _ _).mono ?_; rintro e W2 ⟨rfl, hb2⟩)
        go_ret
        exact ⟨ret_bool HT.out.symm, bthen' (bthen' hW ((Below.refl _ _).alloc (Nat.le_refl _) _)) hb2⟩
      | false =>
        have HT := Lib.hid (show ∀ j, j < k + 1 → rowHas j r = false from fun j hj => by
          rcases Nat.lt_succ_iff_lt_or_eq.1 hj with h | h
          · exact HN.out j h
          · exact h ▸ hh)
        have hh2 : (btw r (rowFrom k) (rowTo k) && !decide (r = rowBut k)) = false := hh
        clear hh
        go_wp2_with (go_at_call 90; refine (has_any _ _ _ _ _).mono ?_; rintro e W2 ⟨rfl, hb2⟩)
        go_roundw
        case rel => exact ⟨k + 1, by omega, by go_num, bthen' (bthen' hW ((Below.refl _ _).alloc (Nat.le_refl _) _)) hb2, bthen' (bthen' hW1 ((Below.refl _ _).alloc (Nat.le_refl _) _)) hb2, HT.out⟩
        case measure => simp [intOf]; omega
    · obtain rfl : k = 4 := by omega
      have HT := Lib.hid (rowHas_none r HN.out)
      clear hg1 hg
      go_wp2_with fail
      go_ret
      exact ⟨ret_bool HT.out.symm, hW⟩

theorem kind_any (w : World) (r : Int) (h0 : -2147483648 ≤ r) (h1 : r ≤ 2147483647) : Calls Try.prog 65 #[.int .i32 r] w fun e w' => e = .returned (.int .i64 (kindv r)) ∧ Below w.heap.size w w' := by
  cases hs : smallB r with
  | true =>
    have hk := Lib.hid (show kindv r = 1 from if_pos hs)
    go_enter Try.func65, Try.ntmps65
    go_wp2_with (go_at_call 79; refine (letter_any _ _).mono ?_; rintro e W1 ⟨rfl, hb1⟩)
    go_ret
    exact ⟨ret_int (by rw [hk.out]), hb1⟩
  | false =>
    have hk := Lib.hid (show kindv r = if 48 ≤ r ∧ r ≤ 57 then 2 else if r = 45 ∨ r = 46 then 3 else if greatB r = true then 4 else 0 from if_neg (by rw [hs]; simp))
    by_cases h45 : r = 45
    · subst h45
      have hk2 := Lib.hid (show kindv 45 = 3 from by rw [hk.out, if_neg (by omega), if_pos (by omega)])
      clear hk
      go_enter Try.func65, Try.ntmps65
      go_wp2_with (go_at_call 79; refine (letter_any _ _).mono ?_; rintro e W1 ⟨rfl, hb1⟩)
      go_ret
      exact ⟨ret_int hk2.out.symm, hb1⟩
    by_cases hbig : 2147483615 < r
    · have hg := Lib.hid (show greatB r = false from by
        cases hg : greatB r with
        | false => rfl
        | true => rw [greatB_iff] at hg; omega)
      have hl : smallB (wrap32 (r + 32)) = false := by
        cases hg : smallB (wrap32 (r + 32)) with
        | false => rfl
        | true => rw [smallB_iff] at hg; unfold wrap32 at hg; omega
      have hk2 := Lib.hid (show kindv r = 0 from by rw [hk.out, if_neg (by omega), if_neg (by omega), if_neg (by rw [hg.out]; simp)])
      clear hk hg
      go_enter Try.func65, Try.ntmps65
      go_wp2_with (go_at_call 79; refine (letter_any _ _).mono ?_; first | (have _h := hb1; rintro e W2 ⟨rfl, hb2⟩) | (rintro e W1 ⟨rfl, hb1⟩))
      all_goals
        go_ret
        first
          | exact ⟨ret_int hk2.out.symm, bthen' hb1 hb2⟩
          | exact ⟨ret_int hk2.out.symm, hb1⟩
    · have hg : 65 ≤ r → smallB (r + 32) = greatB r := fun h => by
        have := great_small r
        cases h1 : smallB (r + 32) <;> cases h2 : greatB r <;> simp_all
      have hg0 : r < 65 → greatB r = false := fun h => by
        have := great_small r
        cases h2 : greatB r
        · rfl
        · rw [h2] at this; have := this.1 rfl; omega
      have HG := Lib.hid hg
      have HG0 := Lib.hid hg0
      clear hg hg0
      go_enter Try.func65, Try.ntmps65
      go_wp2_with (go_at_call 79; refine (letter_any _ _).mono ?_; first | (have _h := hb1; rintro e W2 ⟨rfl, hb2⟩) | (rintro e W1 ⟨rfl, hb1⟩))
      all_goals
        go_ret
        try simp only [beq_iff_eq, beq_eq_false_iff_ne, ne_eq] at *
        refine ⟨ret_int ?_, by first | exact bthen' hb1 hb2 | exact hb1⟩
        first
          | (rw [hk.out, if_pos (by omega)]; done)
          | (rw [hk.out, if_neg (by omega), if_pos (by omega)]; done)
          | (rw [hk.out, if_neg (by omega), if_neg (by omega), if_pos (by rw [← HG.out (by omega)]; assumption)]; done)
          | (rw [hk.out, if_neg (by omega), if_neg (by omega), if_neg (by rw [← HG.out (by omega)]; simp [*])]; done)
          | (rw [hk.out, if_neg (by omega), if_neg (by omega), if_neg (by rw [HG0.out (by omega)]; simp)]; done)

end Go.Proofs.Ytogajmbkjojdhaa
