/- More contracts of hist: the bucket's greatest, and one runtime more. -/
import Derived.Test.YteifjlhkfmoljaaHistWalks
set_option linter.unusedVariables false
namespace Go.Proofs.Yteifjlhkfmoljaa
open Go.RowKit
open HistLaw

theorem highv_out {b : Int} (h : b < 0 ∨ 15 < b) : highv b = 0 := if_pos h
theorem highv_top : highv 15 = 18446744073709551615 := rfl
theorem highv_mid {b : Nat} (h : b < 15) : highv b = 2 ^ b - 1 := by
  unfold highv; rw [if_neg (by omega), if_neg (by omega), Int.toNat_natCast]

set_option maxHeartbeats 400000 in
theorem high_any (b : Int) (w : World) (hb0 : -9223372036854775808 ≤ b) (hb1 : b ≤ 9223372036854775807) :
    Calls Try.prog 41 #[.int .i64 b] w fun e w' => e = .returned (.int .u64 (highv b)) ∧ w = w' := by
  by_cases h0 : b < 0
  · go_enter Try.func41, Try.ntmps41
    go_wp2
    go_ret
    exact ⟨ret_int (highv_out (.inl h0)).symm, rfl⟩
  by_cases h1 : 15 < b
  · go_enter Try.func41, Try.ntmps41
    go_wp2
    go_ret
    exact ⟨ret_int (highv_out (.inr h1)).symm, rfl⟩
  by_cases h2 : b = 15
  · subst h2
    go_enter Try.func41, Try.ntmps41
    go_wp2
    go_ret
    exact ⟨rfl, rfl⟩
  obtain ⟨n, rfl⟩ := Int.eq_ofNat_of_zero_le (show 0 ≤ b by omega)
  go_enter Try.func41, Try.ntmps41
  go_wp2
  go_ret
  refine ⟨ret_int ?_, rfl⟩
  have h3 := pow_le (j := n) (k := 15) (by omega)
  have h4 : (2 : Int) ^ 15 = 32768 := by decide
  have h5 := pow_ge1 n
  rw [highv_mid (by omega), IntWalk.u64_in (2 ^ n) (by omega), IntWalk.u64_in _ (by omega)]

set_option maxHeartbeats 400000 in
theorem refHigh_any (b : Int) (w : World) (hb0 : -9223372036854775808 ≤ b) (hb1 : b ≤ 9223372036854775807) :
    Calls Try.prog 44 #[.int .i64 b] w fun e w' => e = .returned (.int .u64 (highv b)) ∧ w = w' := by
  by_cases h0 : b < 0
  · go_enter Try.func44, Try.ntmps44
    go_wp2
    go_ret
    exact ⟨ret_int (highv_out (.inl h0)).symm, rfl⟩
  by_cases h1 : 15 < b
  · go_enter Try.func44, Try.ntmps44
    go_wp2
    go_ret
    exact ⟨ret_int (highv_out (.inr h1)).symm, rfl⟩
  by_cases h2 : b = 15
  · subst h2
    go_enter Try.func44, Try.ntmps44
    go_wp2
    go_ret
    exact ⟨rfl, rfl⟩
  obtain ⟨n, rfl⟩ := Int.eq_ofNat_of_zero_le (show 0 ≤ b by omega)
  go_enter Try.func44, Try.ntmps44
  go_wp2
  go_loop [3, 4] (fun v i => ∃ (k : Nat) (x : Int), k ≤ n ∧ i = .int .i64 k ∧ v = .int .u64 x ∧ 0 ≤ x ∧ x ≤ 32767 ∧ Hid (x = highv k ∨ x = 32767 ∧ k = 15)) (fun _ i => n - (intOf i).toNat)
  case atStart => exact ⟨0, 0, by omega, rfl, rfl, by omega, by omega, Lib.hid (.inl rfl)⟩
  case round =>
    obtain ⟨k, x, hk, rfl, rfl, hx0, hx1, hx⟩ := hrel
    by_cases hlt : k < n
    · have hx2 : x ≤ 16383 := by
        have := highv_mid (b := k) (by omega)
        have h2 := pow_le (j := k) (k := 14) (by omega)
        have h3 : (2 : Int) ^ 14 = 16384 := by decide
        rcases hx.out with h | ⟨_, h⟩ <;> omega
      have HS : Hid (2 * x + 1 = highv ((k + 1 : Nat) : Int) ∨ 2 * x + 1 = 32767 ∧ k + 1 = 15) := Lib.hid (by
        have h1 := highv_mid (b := k) (by omega)
        have h2 := highv_mid (b := k + 1) (by omega)
        have h3 : (2 : Int) ^ (k + 1) = 2 * 2 ^ k := by rw [Int.pow_succ]; omega
        rcases hx.out with h | ⟨_, h⟩
        · left; omega
        · omega)
      go_wp2
      go_round
      case rel => exact ⟨k + 1, 2 * x + 1, by omega, by go_num, rfl, by omega, by omega, HS⟩
      case measure => simp [intOf]; omega
    · have hkn : k = n := by omega
      subst hkn
      go_wp2
      go_ret
      refine ⟨ret_int ?_, rfl⟩
      rcases hx.out with h | ⟨_, h⟩
      · exact h
      · omega

/-- Sixteen noughts. -/
def zeros : List Int := List.replicate 16 0
theorem hcells_zeros : hcells zeros = #[.int .i64 0, .int .i64 0, .int .i64 0, .int .i64 0, .int .i64 0, .int .i64 0, .int .i64 0, .int .i64 0, .int .i64 0, .int .i64 0, .int .i64 0, .int .i64 0, .int .i64 0, .int .i64 0, .int .i64 0, .int .i64 0] := rfl

/-- Half way: the first k are halved. -/
def mix (h : List Int) (k : Nat) : List Int := (h.take k).map (fun x => x / 2) ++ h.drop k
theorem mix_length (h : List Int) (k : Nat) : (mix h k).length = h.length := by simp [mix]; omega
theorem mix_zero (h : List Int) : mix h 0 = h := by simp [mix]
theorem mix_all (h : List Int) (hl : h.length = 16) : mix h 16 = h.map (fun x => x / 2) := by
  simp [mix, List.take_of_length_le (show h.length ≤ 16 by omega), List.drop_eq_nil_of_le (show h.length ≤ 16 by omega)]
theorem mix_nth (h : List Int) (k : Nat) (hk : k < h.length) : nth (mix h k) k = nth h k := by
  unfold nth mix
  rw [List.getElem?_append_right (by simp; omega)]
  simp [hk, show min k h.length = k by omega]
theorem mix_set (h : List Int) (k : Nat) (hk : k < h.length) : (mix h k).set k (nth h k / 2) = mix h (k + 1) := by
  unfold mix
  rw [take_snoc h k hk, List.map_append, List.set_append_right _ _ (by simp; omega)]
  have e : List.drop k h = nth h k :: List.drop (k + 1) h := by rw [nth_eq h k hk]; exact List.drop_eq_getElem_cons hk
  rw [e]
  simp [show min k h.length = k by omega]

theorem row_cell {w : World} {g : Nat} {h : List Int} {t : TypeId} {k : Nat} (hg : w.heap[g]? = some (.cells (hcells h) t (0, 0))) (hk : k < h.length) : w.cell? ⟨g, k, none⟩ = some (.int .i64 (nth h k)) := by
  rw [cell_of_row w g k _ _ _ hg, hcells_get h k hk]
theorem row_set {w : World} {g : Nat} {h : List Int} {t : TypeId} {k : Nat} {x : Int} (hg : w.heap[g]? = some (.cells (hcells h) t (0, 0))) : (w.setCell ⟨g, k, none⟩ (.int .i64 x)).heap[g]? = some (.cells (hcells (h.set k x)) t (0, 0)) := by
  rw [heap_setCell_same w g k _ _ _ hg, hcells_set]
theorem row_free {w : World} {g : Nat} {cs : Array Value} {t : TypeId} {k : Nat} (hg : w.heap[g]? = some (.cells cs t (0, 0))) : w.frozen? ⟨g, k, none⟩ = false := frozen_of_row w g k cs t hg

/-- Behind the two boxes of a call, and whatever grew since. -/
theorem two_boxes {w w1 : World} {A B : Obj} (hb : Below ((w.alloc A).alloc B).heap.size ((w.alloc A).alloc B) w1) : w1.heap[w.heap.size]? = some A ∧ w1.heap[w.heap.size + 1]? = some B ∧ Below w.heap.size w w1 ∧ w.heap.size + 2 ≤ w1.heap.size := by
  refine ⟨?_, ?_, ?_, ?_⟩
  · rw [hb.block _ (by simp; omega), heap_alloc2_old]
  · rw [hb.block _ (by simp), heap_alloc2_new]
  · exact (((Below.refl _ _).alloc (Nat.le_refl _) _).alloc (by simp) _).trans (hb.mono (by simp; omega))
  · have := hb.size; simp at this; omega

theorem kept {w1 w2 : World} {g : Nat} {o : Obj} (hb : Below w1.heap.size w1 w2) (hg : w1.heap[g]? = some o) : w2.heap[g]? = some o := by
  have : g < w1.heap.size := lt_of_block hg
  rw [hb.block _ this, hg]

theorem bthen {w w1 w2 : World} (h1 : Below w.heap.size w w1) (h2 : Below w1.heap.size w1 w2) : Below w.heap.size w w2 := h1.trans (h2.mono h1.size)

theorem below_row {B : Nat} {a w : World} {g : Nat} (h : Below B a w) (hg : B ≤ g) (cs : Array Value) : Below B a (w.setRow g cs) :=
  h.trans ⟨rfl, rfl, rfl, by simp, fun k hk => setRow_other w g k cs (by omega)⟩

set_option maxHeartbeats 1000000 in
theorem add_any (h : List Int) (hl : h.length = 16) (v : Nat) (hv : v < 18446744073709551616) (w : World) :
    Calls Try.prog 18 #[.agg (hcells h), .int .u64 v] w fun e w' => e = .returned (.agg (hcells (addH h v))) ∧ Below w.heap.size w w' := by
  by_cases hr : rightB h = true
  · have hbk := buck_le v
    obtain ⟨hall, -, -⟩ := halve_right hl hr
    have hbd : 0 ≤ nth (halve h) (buck v) ∧ nth (halve h) (buck v) ≤ 64 := hall _ (nth_mem _ _ (by rw [halve_length]; omega))
    have hHL : (halve h).length = 16 := by rw [halve_length, hl]
    have HADD := Lib.hid (show addH h v = (halve h).set (buck v) (nth (halve h) (buck v) + 1) from if_pos hr)
    obtain ⟨hbd0, hbd1⟩ := hbd
    clear hall
    by_cases hf : tw h = 64
    · have hfb : (tw h == 64) = true := by simp [hf]
      have HH := Lib.hid (show halve h = mix h 16 by rw [mix_all h hl]; exact if_pos hf)
      have HR := Lib.hid (right_all hr)
      clear hf
      go_enter Try.func18, Try.ntmps18
      go_wp2_with (first | (refine wpList_load_row rfl 49 _ rfl w.heap.size rfl 49 (hcells h) (0, 0) _ (by first | assumption | exact heap_alloc2_old w _ _) histU rfl (histRow hl) ?_) | (go_at_call 30; refine (right_any h hl _).mono ?_; rintro e w1 ⟨rfl, hb1⟩; obtain ⟨hA, hB, hbel, hsz⟩ := two_boxes hb1; clear hb1) | (go_at_call 38; refine (total_any h hl _).mono ?_; rintro e w2 ⟨rfl, hb2⟩; have hA2 := kept hb2 hA; have hB2 := kept hb2 hB; have hbel2 := bthen hbel hb2; have hsz2 := hb2.size; clear hb2 hA hB hbel))
      go_loopw [5, 13] (fun _ i wr => ∃ k : Nat, k ≤ 16 ∧ i = .int .i64 k ∧ wr.heap[w.heap.size]? = some (.cells (hcells (mix h k)) 49 (0, 0)) ∧ wr.heap[w.heap.size + 1]? = some (.cells (hcells zeros) 49 (0, 0)) ∧ Below w.heap.size w wr) (fun _ i _ => 16 - (intOf i).toNat)
      case atStart => exact ⟨0, by omega, rfl, by rw [mix_zero]; exact hA2, hB2, hbel2⟩
      case round =>
        clear hA2 hB2 hbel2 hsz2
        obtain ⟨k, hk, rfl, hG, hZ, hbW⟩ := hrel
        by_cases hlt : k < 16
        · have hc : wr.cell? ⟨w.heap.size, k, none⟩ = some (.int .i64 (nth h k)) := by rw [row_cell hG (by rw [mix_length]; omega), mix_nth h k (by omega)]
          have hfr : wr.frozen? ⟨w.heap.size, k, none⟩ = false := row_free hG
          have hxy := HR.out _ (nth_mem h k (by omega))
          obtain ⟨hx0, hx1⟩ := hxy
          have hG2 := row_set (k := k) (x := nth h k / 2) hG
          rw [mix_set h k (by omega)] at hG2
          have hZ2 : (wr.setCell ⟨w.heap.size, k, none⟩ (.int .i64 (nth h k / 2))).heap[w.heap.size + 1]? = some (.cells (hcells zeros) 49 (0, 0)) := by rw [heap_setCell_other _ _ _ _ (by simp)]; exact hZ
          clear hG hZ
          go_wp2
          go_roundw
          case rel => exact ⟨k + 1, by omega, by go_num, hG2, hZ2, hbW.setCell (Nat.le_refl _) _⟩
          case measure => simp [intOf]; omega
        · obtain rfl : k = 16 := by omega
          rw [← HH.out] at hG
          have hcB : wr.cell? ⟨w.heap.size, buck v, none⟩ = some (.int .i64 (nth (halve h) (buck v))) := row_cell hG (by omega)
          have hfB : wr.frozen? ⟨w.heap.size, buck v, none⟩ = false := row_free hG
          have hL := row_set (k := buck v) (x := nth (halve h) (buck v) + 1) hG
          rw [← HADD.out] at hL
          have hB3 : (wr.setCell ⟨w.heap.size, buck v, none⟩ (.int .i64 (nth (halve h) (buck v) + 1))).heap[w.heap.size + 1]? = some (.cells (hcells zeros) 49 (0, 0)) := by rw [heap_setCell_other _ _ _ _ (by simp)]; exact hZ
          have hS := hcells_size (addH h v)
          have hAL := addH_length h v hl
          clear hG hZ
          go_wp2_with (first | (refine wpList_load_row rfl 49 _ rfl w.heap.size rfl 49 (hcells (addH h v)) (0, 0) _ (by assumption) histU rfl (histRow hAL) ?_) | (refine wpList_store_row rfl 49 _ _ rfl (w.heap.size + 1) (hcells (addH h v)) rfl rfl 49 (hcells zeros) (by assumption) (histRow hAL) (by rw [hS, hAL]; rfl) (hcells_one _) ?_) | (go_at_call 39; refine (bucket_any v _ hv).mono ?_; rintro e w3 ⟨rfl, rfl⟩))
          refine bodyPost_ret (v := .agg (hcells (addH h v))) (results_cell_row rfl _ _ (w.heap.size + 1) 49 _ (0, 0) _ rfl (setRow_heap _ _ _ _ _ _ hB3) histU rfl (histRow hAL)) rfl ⟨rfl, ?_⟩
          exact below_row (hbW.setCell (Nat.le_refl _) _) (by omega) _
    · have hfb : (tw h == 64) = false := by simp [hf]
      have HH := Lib.hid (show halve h = h from if_neg hf)
      clear hf
      go_enter Try.func18, Try.ntmps18
      go_wp2_with (first | (refine wpList_load_row rfl 49 _ rfl w.heap.size rfl 49 (hcells h) (0, 0) _ (by first | assumption | exact heap_alloc2_old w _ _) histU rfl (histRow hl) ?_) | (go_at_call 30; refine (right_any h hl _).mono ?_; rintro e w1 ⟨rfl, hb1⟩; obtain ⟨hA, hB, hbel, hsz⟩ := two_boxes hb1; clear hb1) | (go_at_call 38; refine (total_any h hl _).mono ?_; rintro e w2 ⟨rfl, hb2⟩; have hA2 := kept hb2 hA; have hB2 := kept hb2 hB; have hbel2 := bthen hbel hb2; have hsz2 := hb2.size; clear hb2 hA hB hbel) | (go_at_call 39; fail))
      rw [← HH.out] at hA2
      have hcB : w2.cell? ⟨w.heap.size, buck v, none⟩ = some (.int .i64 (nth (halve h) (buck v))) := row_cell hA2 (by omega)
      have hfB : w2.frozen? ⟨w.heap.size, buck v, none⟩ = false := row_free hA2
      have hL := row_set (k := buck v) (x := nth (halve h) (buck v) + 1) hA2
      rw [← HADD.out] at hL
      have hB3 : (w2.setCell ⟨w.heap.size, buck v, none⟩ (.int .i64 (nth (halve h) (buck v) + 1))).heap[w.heap.size + 1]? = some (.cells (hcells zeros) 49 (0, 0)) := by rw [heap_setCell_other _ _ _ _ (by simp)]; exact hB2
      have hS := hcells_size (addH h v)
      have hAL := addH_length h v hl
      clear hA2 hB2
      go_wp2_with (first | (refine wpList_load_row rfl 49 _ rfl w.heap.size rfl 49 (hcells (addH h v)) (0, 0) _ (by assumption) histU rfl (histRow hAL) ?_) | (refine wpList_store_row rfl 49 _ _ rfl (w.heap.size + 1) (hcells (addH h v)) rfl rfl 49 (hcells zeros) (by assumption) (histRow hAL) (by rw [hS, hAL]; rfl) (hcells_one _) ?_) | (go_at_call 39; refine (bucket_any v _ hv).mono ?_; rintro e w3 ⟨rfl, rfl⟩))
      refine bodyPost_ret (v := .agg (hcells (addH h v))) (results_cell_row rfl _ _ (w.heap.size + 1) 49 _ (0, 0) _ rfl (setRow_heap _ _ _ _ _ _ hB3) histU rfl (histRow hAL)) rfl ⟨rfl, ?_⟩
      exact below_row (hbel2.setCell (Nat.le_refl _) _) (by omega) _
  · have hrb : rightB h = false := by simpa using hr
    have HADD := Lib.hid (show addH h v = zeros by unfold addH; rw [if_neg hr]; rfl)
    clear hr
    go_enter Try.func18, Try.ntmps18
    go_wp2_with (first | (refine wpList_load_row rfl 49 _ rfl w.heap.size rfl 49 (hcells h) (0, 0) _ (by first | assumption | exact heap_alloc2_old w _ _) histU rfl (histRow hl) ?_) | (go_at_call 30; refine (right_any h hl _).mono ?_; rintro e w1 ⟨rfl, hb1⟩; obtain ⟨hA, hB, hbel, hsz⟩ := two_boxes hb1; clear hb1) | (refine wpList_store_row rfl 49 _ _ rfl (w.heap.size + 1) (hcells zeros) rfl rfl 49 (hcells zeros) (by assumption) (histRow rfl) rfl (hcells_one _) ?_))
    refine bodyPost_ret (v := .agg (hcells (addH h v))) ?_ rfl ⟨rfl, below_row hbel (by omega) _⟩
    rw [HADD.out]
    exact results_cell_row rfl _ _ (w.heap.size + 1) 49 _ (0, 0) _ rfl (setRow_heap _ _ _ _ _ _ hB) histU rfl (histRow rfl)
end Go.Proofs.Yteifjlhkfmoljaa
