/- More contracts of quant, and of the document's answer. -/
import Derived.Test.YteifjlhkfmoljaaQuantWalks
set_option linter.unusedVariables false
namespace Go.Proofs.Yteifjlhkfmoljaa
open Go.RowKit Go.Shelf
open HistLaw

theorem plcOk_no {h : List Int} {p : Int} (hp : plcOk h p = false) : rightB h = false ∨ rightB h = true ∧ ((tw h == 0) = true ∨ (tw h == 0) = false ∧ (p < 1 ∨ 1 ≤ p ∧ 100 < p)) := by
  cases hr : rightB h with
  | false => exact .inl rfl
  | true =>
    refine .inr ⟨rfl, ?_⟩
    cases ht : (tw h == 0) with
    | true => exact .inl rfl
    | false =>
      refine .inr ⟨rfl, ?_⟩
      simp only [plcOk, hr, ht, Bool.not_false, Bool.true_and, Bool.and_eq_false_iff, decide_eq_false_iff_not] at hp
      omega

set_option maxRecDepth 100000 in
set_option maxHeartbeats 1000000 in
theorem place_no (h : List Int) (hl : h.length = 16) (p : Int) (hp : plcOk h p = false) (w : World) :
    Calls Try.prog 40 #[.agg (hcells h), .int .i64 p] w fun e w' => e = .returned (.tuple #[.int .i64 0, .bool false]) ∧ Below w.heap.size w w' := by
  rcases plcOk_no hp with hr | ⟨hr, ht | ⟨ht, hp1 | ⟨hp1, hp2⟩⟩⟩
  · clear hp
    go_enter Try.func40, Try.ntmps40
    go_wp2_with (first | (refine wl_load_row rfl 49 _ rfl w.heap.size rfl 49 (hcells h) (0, 0) _ (by first | assumption | (rw [hp_old (by simp; omega), hp_old (by simp; omega), hp_old (by simp)]; exact heap_alloc_new w _) | (rw [hp_old (by omega)]; assumption)) histU rfl (histRow hl) ?_) | (go_at_call 38; refine (total_any h hl _).mono ?_; rintro e w1 ⟨rfl, hb1⟩; obtain ⟨hA, hP, hR0, hR1, hbel, hsz⟩ := four_boxes hb1; clear hb1) | (go_at_call 30; refine (right_any h hl _).mono ?_; rintro e w2 ⟨rfl, hb2⟩; have hA2 := kept_alloc hb2 hA; have hP2 := kept_alloc hb2 hP; have hR02 := kept_alloc hb2 hR0; have hR12 := kept_alloc hb2 hR1; have hT2 := new_alloc hb2; have hbel2 := bthen_alloc hbel hb2; have cP := cell_of_one hP2; have cT := cell_of_one hT2; have c0 := cell_of_one hR02; have c1 := cell_of_one hR12; have f0 := free_of_one hR02; have f1 := free_of_one hR12; clear hb2 hA hP hR0 hR1 hbel))
    have r0 : ((w2.setCell ⟨w.heap.size + 1 + 1, 0, none⟩ (.int .i64 0)).setCell ⟨w.heap.size + 1 + 1 + 1, 0, none⟩ (.bool false)).cell? ⟨w.heap.size + 1 + 1, 0, none⟩ = some (.int .i64 0) := by rw [World.cell?_setCell_other _ _ _ _ (by simp)]; exact World.cell?_setCell_same _ _ _ c0
    have q1' : (w2.setCell ⟨w.heap.size + 1 + 1, 0, none⟩ (.int .i64 0)).cell? ⟨w.heap.size + 1 + 1 + 1, 0, none⟩ = some (.bool false) := by rw [World.cell?_setCell_other _ _ _ _ (by simp)]; exact c1
    have r1 : ((w2.setCell ⟨w.heap.size + 1 + 1, 0, none⟩ (.int .i64 0)).setCell ⟨w.heap.size + 1 + 1 + 1, 0, none⟩ (.bool false)).cell? ⟨w.heap.size + 1 + 1 + 1, 0, none⟩ = some (.bool false) := World.cell?_setCell_same _ _ _ q1'
    refine bodyPost_ret (v := .tuple #[.int .i64 0, .bool false]) ?_ rfl ⟨rfl, (hbel2.setCell (p := ⟨w.heap.size + 1 + 1, 0, none⟩) (by simp; omega) _).setCell (p := ⟨w.heap.size + 1 + 1 + 1, 0, none⟩) (by simp; omega) _⟩
    simp [results, Try.f40, go_sem, r0, r1]
  · clear hp
    go_enter Try.func40, Try.ntmps40
    go_wp2_with (first | (refine wl_load_row rfl 49 _ rfl w.heap.size rfl 49 (hcells h) (0, 0) _ (by first | assumption | (rw [hp_old (by simp; omega), hp_old (by simp; omega), hp_old (by simp)]; exact heap_alloc_new w _) | (rw [hp_old (by omega)]; assumption)) histU rfl (histRow hl) ?_) | (go_at_call 38; refine (total_any h hl _).mono ?_; rintro e w1 ⟨rfl, hb1⟩; obtain ⟨hA, hP, hR0, hR1, hbel, hsz⟩ := four_boxes hb1; clear hb1) | (go_at_call 30; refine (right_any h hl _).mono ?_; rintro e w2 ⟨rfl, hb2⟩; have hA2 := kept_alloc hb2 hA; have hP2 := kept_alloc hb2 hP; have hR02 := kept_alloc hb2 hR0; have hR12 := kept_alloc hb2 hR1; have hT2 := new_alloc hb2; have hbel2 := bthen_alloc hbel hb2; have cP := cell_of_one hP2; have cT := cell_of_one hT2; have c0 := cell_of_one hR02; have c1 := cell_of_one hR12; have f0 := free_of_one hR02; have f1 := free_of_one hR12; clear hb2 hA hP hR0 hR1 hbel))
    have r0 : ((w2.setCell ⟨w.heap.size + 1 + 1, 0, none⟩ (.int .i64 0)).setCell ⟨w.heap.size + 1 + 1 + 1, 0, none⟩ (.bool false)).cell? ⟨w.heap.size + 1 + 1, 0, none⟩ = some (.int .i64 0) := by rw [World.cell?_setCell_other _ _ _ _ (by simp)]; exact World.cell?_setCell_same _ _ _ c0
    have q1' : (w2.setCell ⟨w.heap.size + 1 + 1, 0, none⟩ (.int .i64 0)).cell? ⟨w.heap.size + 1 + 1 + 1, 0, none⟩ = some (.bool false) := by rw [World.cell?_setCell_other _ _ _ _ (by simp)]; exact c1
    have r1 : ((w2.setCell ⟨w.heap.size + 1 + 1, 0, none⟩ (.int .i64 0)).setCell ⟨w.heap.size + 1 + 1 + 1, 0, none⟩ (.bool false)).cell? ⟨w.heap.size + 1 + 1 + 1, 0, none⟩ = some (.bool false) := World.cell?_setCell_same _ _ _ q1'
    refine bodyPost_ret (v := .tuple #[.int .i64 0, .bool false]) ?_ rfl ⟨rfl, (hbel2.setCell (p := ⟨w.heap.size + 1 + 1, 0, none⟩) (by simp; omega) _).setCell (p := ⟨w.heap.size + 1 + 1 + 1, 0, none⟩) (by simp; omega) _⟩
    simp [results, Try.f40, go_sem, r0, r1]
  · clear hp
    go_enter Try.func40, Try.ntmps40
    go_wp2_with (first | (refine wl_load_row rfl 49 _ rfl w.heap.size rfl 49 (hcells h) (0, 0) _ (by first | assumption | (rw [hp_old (by simp; omega), hp_old (by simp; omega), hp_old (by simp)]; exact heap_alloc_new w _) | (rw [hp_old (by omega)]; assumption)) histU rfl (histRow hl) ?_) | (go_at_call 38; refine (total_any h hl _).mono ?_; rintro e w1 ⟨rfl, hb1⟩; obtain ⟨hA, hP, hR0, hR1, hbel, hsz⟩ := four_boxes hb1; clear hb1) | (go_at_call 30; refine (right_any h hl _).mono ?_; rintro e w2 ⟨rfl, hb2⟩; have hA2 := kept_alloc hb2 hA; have hP2 := kept_alloc hb2 hP; have hR02 := kept_alloc hb2 hR0; have hR12 := kept_alloc hb2 hR1; have hT2 := new_alloc hb2; have hbel2 := bthen_alloc hbel hb2; have cP := cell_of_one hP2; have cT := cell_of_one hT2; have c0 := cell_of_one hR02; have c1 := cell_of_one hR12; have f0 := free_of_one hR02; have f1 := free_of_one hR12; clear hb2 hA hP hR0 hR1 hbel))
    have r0 : ((w2.setCell ⟨w.heap.size + 1 + 1, 0, none⟩ (.int .i64 0)).setCell ⟨w.heap.size + 1 + 1 + 1, 0, none⟩ (.bool false)).cell? ⟨w.heap.size + 1 + 1, 0, none⟩ = some (.int .i64 0) := by rw [World.cell?_setCell_other _ _ _ _ (by simp)]; exact World.cell?_setCell_same _ _ _ c0
    have q1' : (w2.setCell ⟨w.heap.size + 1 + 1, 0, none⟩ (.int .i64 0)).cell? ⟨w.heap.size + 1 + 1 + 1, 0, none⟩ = some (.bool false) := by rw [World.cell?_setCell_other _ _ _ _ (by simp)]; exact c1
    have r1 : ((w2.setCell ⟨w.heap.size + 1 + 1, 0, none⟩ (.int .i64 0)).setCell ⟨w.heap.size + 1 + 1 + 1, 0, none⟩ (.bool false)).cell? ⟨w.heap.size + 1 + 1 + 1, 0, none⟩ = some (.bool false) := World.cell?_setCell_same _ _ _ q1'
    refine bodyPost_ret (v := .tuple #[.int .i64 0, .bool false]) ?_ rfl ⟨rfl, (hbel2.setCell (p := ⟨w.heap.size + 1 + 1, 0, none⟩) (by simp; omega) _).setCell (p := ⟨w.heap.size + 1 + 1 + 1, 0, none⟩) (by simp; omega) _⟩
    simp [results, Try.f40, go_sem, r0, r1]
  · clear hp
    go_enter Try.func40, Try.ntmps40
    go_wp2_with (first | (refine wl_load_row rfl 49 _ rfl w.heap.size rfl 49 (hcells h) (0, 0) _ (by first | assumption | (rw [hp_old (by simp; omega), hp_old (by simp; omega), hp_old (by simp)]; exact heap_alloc_new w _) | (rw [hp_old (by omega)]; assumption)) histU rfl (histRow hl) ?_) | (go_at_call 38; refine (total_any h hl _).mono ?_; rintro e w1 ⟨rfl, hb1⟩; obtain ⟨hA, hP, hR0, hR1, hbel, hsz⟩ := four_boxes hb1; clear hb1) | (go_at_call 30; refine (right_any h hl _).mono ?_; rintro e w2 ⟨rfl, hb2⟩; have hA2 := kept_alloc hb2 hA; have hP2 := kept_alloc hb2 hP; have hR02 := kept_alloc hb2 hR0; have hR12 := kept_alloc hb2 hR1; have hT2 := new_alloc hb2; have hbel2 := bthen_alloc hbel hb2; have cP := cell_of_one hP2; have cT := cell_of_one hT2; have c0 := cell_of_one hR02; have c1 := cell_of_one hR12; have f0 := free_of_one hR02; have f1 := free_of_one hR12; clear hb2 hA hP hR0 hR1 hbel))
    have r0 : ((w2.setCell ⟨w.heap.size + 1 + 1, 0, none⟩ (.int .i64 0)).setCell ⟨w.heap.size + 1 + 1 + 1, 0, none⟩ (.bool false)).cell? ⟨w.heap.size + 1 + 1, 0, none⟩ = some (.int .i64 0) := by rw [World.cell?_setCell_other _ _ _ _ (by simp)]; exact World.cell?_setCell_same _ _ _ c0
    have q1' : (w2.setCell ⟨w.heap.size + 1 + 1, 0, none⟩ (.int .i64 0)).cell? ⟨w.heap.size + 1 + 1 + 1, 0, none⟩ = some (.bool false) := by rw [World.cell?_setCell_other _ _ _ _ (by simp)]; exact c1
    have r1 : ((w2.setCell ⟨w.heap.size + 1 + 1, 0, none⟩ (.int .i64 0)).setCell ⟨w.heap.size + 1 + 1 + 1, 0, none⟩ (.bool false)).cell? ⟨w.heap.size + 1 + 1 + 1, 0, none⟩ = some (.bool false) := World.cell?_setCell_same _ _ _ q1'
    refine bodyPost_ret (v := .tuple #[.int .i64 0, .bool false]) ?_ rfl ⟨rfl, (hbel2.setCell (p := ⟨w.heap.size + 1 + 1, 0, none⟩) (by simp; omega) _).setCell (p := ⟨w.heap.size + 1 + 1 + 1, 0, none⟩) (by simp; omega) _⟩
    simp [results, Try.f40, go_sem, r0, r1]

set_option maxRecDepth 100000 in
set_option maxHeartbeats 1000000 in
theorem refPlace_no (h : List Int) (hl : h.length = 16) (p : Int) (hp : plcOk h p = false) (w : World) :
    Calls Try.prog 43 #[.agg (hcells h), .int .i64 p] w fun e w' => e = .returned (.int .i64 (-1)) ∧ Below w.heap.size w w' := by
  rcases plcOk_no hp with hr | ⟨hr, ht | ⟨ht, hp1 | ⟨hp1, hp2⟩⟩⟩
  · clear hp
    go_enter Try.func43, Try.ntmps43
    go_wp2_with (first | (refine wl_load_row rfl 49 _ rfl w.heap.size rfl 49 (hcells h) (0, 0) _ (by first | assumption | exact heap_alloc_new w _) histU rfl (histRow hl) ?_) | (go_at_call 31; refine (refRight_any h hl _).mono ?_; rintro e w1 ⟨rfl, hb1⟩; have hA := new_alloc hb1; have hbel := bthen_alloc (Below.refl _ _) hb1; clear hb1) | (go_at_call 32; refine (refTotal_any h hl _).mono ?_; rintro e w2 ⟨rfl, hb2⟩; have hA2 := kept hb2 hA; have hbel2 := bthen hbel hb2; clear hb2 hA hbel))
    go_ret
    exact ⟨rfl, hbel⟩
  · clear hp
    go_enter Try.func43, Try.ntmps43
    go_wp2_with (first | (refine wl_load_row rfl 49 _ rfl w.heap.size rfl 49 (hcells h) (0, 0) _ (by first | assumption | exact heap_alloc_new w _) histU rfl (histRow hl) ?_) | (go_at_call 31; refine (refRight_any h hl _).mono ?_; rintro e w1 ⟨rfl, hb1⟩; have hA := new_alloc hb1; have hbel := bthen_alloc (Below.refl _ _) hb1; clear hb1) | (go_at_call 32; refine (refTotal_any h hl _).mono ?_; rintro e w2 ⟨rfl, hb2⟩; have hA2 := kept hb2 hA; have hbel2 := bthen hbel hb2; clear hb2 hA hbel))
    go_ret
    exact ⟨rfl, hbel2⟩
  · clear hp
    go_enter Try.func43, Try.ntmps43
    go_wp2_with (first | (refine wl_load_row rfl 49 _ rfl w.heap.size rfl 49 (hcells h) (0, 0) _ (by first | assumption | exact heap_alloc_new w _) histU rfl (histRow hl) ?_) | (go_at_call 31; refine (refRight_any h hl _).mono ?_; rintro e w1 ⟨rfl, hb1⟩; have hA := new_alloc hb1; have hbel := bthen_alloc (Below.refl _ _) hb1; clear hb1) | (go_at_call 32; refine (refTotal_any h hl _).mono ?_; rintro e w2 ⟨rfl, hb2⟩; have hA2 := kept hb2 hA; have hbel2 := bthen hbel hb2; clear hb2 hA hbel))
    go_ret
    exact ⟨rfl, hbel2⟩
  · clear hp
    go_enter Try.func43, Try.ntmps43
    go_wp2_with (first | (refine wl_load_row rfl 49 _ rfl w.heap.size rfl 49 (hcells h) (0, 0) _ (by first | assumption | exact heap_alloc_new w _) histU rfl (histRow hl) ?_) | (go_at_call 31; refine (refRight_any h hl _).mono ?_; rintro e w1 ⟨rfl, hb1⟩; have hA := new_alloc hb1; have hbel := bthen_alloc (Below.refl _ _) hb1; clear hb1) | (go_at_call 32; refine (refTotal_any h hl _).mono ?_; rintro e w2 ⟨rfl, hb2⟩; have hA2 := kept hb2 hA; have hbel2 := bthen hbel hb2; clear hb2 hA hbel))
    go_ret
    exact ⟨rfl, hbel2⟩

theorem tw_one (h : List Int) (hl : h.length = 16) (hb : -9223372036854775808 ≤ nth h 0 ∧ nth h 0 ≤ 9223372036854775807) : tw (h.take 1) = nth h 0 := by
  have := tw_take h 0 (by omega)
  rw [this]
  have e : tw (h.take 0) = 0 := rfl
  rw [e, IntWalk.i64_in _ (by omega)]
  omega

set_option maxRecDepth 100000 in
set_option maxHeartbeats 1000000 in
theorem refPlace_yes (h : List Int) (hl : h.length = 16) (p : Int) (hp : plcOk h p = true) (w : World) :
    Calls Try.prog 43 #[.agg (hcells h), .int .i64 p] w fun e w' => e = .returned (.int .i64 (plcB h p)) ∧ Below w.heap.size w w' := by
  obtain ⟨hr, ht, hp1, hp2⟩ := plcOk_iff.1 hp
  have htb : (tw h == 0) = false := by simpa using ht
  obtain ⟨hbd0, hbd1⟩ := tw_bd64 hl hr
  have hmul0 : 0 ≤ tw h * p := Int.mul_nonneg hbd0 (by omega)
  have hmul1 : tw h * p ≤ 6400 := by
    have h1 := Int.mul_le_mul_of_nonneg_left hp2 hbd0
    omega
  have HR := Lib.hid (right_all hr)
  have HP := Lib.hid hp
  have hn0 := HR.out _ (nth_mem h 0 (by omega))
  have HT1 := Lib.hid (tw_one h hl (by omega))
  clear ht hp hn0
  go_enter Try.func43, Try.ntmps43
  go_wp2_with (first | (refine wl_load_row rfl 49 _ rfl w.heap.size rfl 49 (hcells h) (0, 0) _ (by first | assumption | exact heap_alloc_new w _) histU rfl (histRow hl) ?_) | (go_at_call 31; refine (refRight_any h hl _).mono ?_; rintro e w1 ⟨rfl, hb1⟩; have hA := new_alloc hb1; have hbel := bthen_alloc (Below.refl _ _) hb1; clear hb1) | (go_at_call 32; refine (refTotal_any h hl _).mono ?_; rintro e w2 ⟨rfl, hb2⟩; have hA2 := kept hb2 hA; have hbel2 := bthen hbel hb2; have cH := row_cell (k := 0) hA2 (by omega); clear hb2 hA hbel))
  go_loopw [5, 6] (fun b n wr => ∃ k : Nat, k ≤ 15 ∧ b = .int .i64 k ∧ n = .int .i64 (tw (h.take (k + 1))) ∧ wr.heap[w.heap.size]? = some (.cells (hcells h) 49 (0, 0)) ∧ Below w.heap.size w wr ∧ Hid (∀ j, j < k → hit h p j = false)) (fun b _ _ => 16 - (intOf b).toNat)
  case atStart => exact ⟨0, by omega, rfl, by rw [HT1.out], hA2, hbel2, Lib.hid (fun j hj => by omega)⟩
  case round =>
    clear hA2 hbel2 cH
    obtain ⟨k, hk, rfl, rfl, hA, hbel, hall⟩ := hrel
    have ht := take_bd hl hr (k + 1)
    obtain ⟨ht0, ht1⟩ := ht
    by_cases hh : tw h * p ≤ tw (h.take (k + 1)) * 100
    · have hh' : ¬ (100 * tw (h.take (k + 1)) < tw h * p) := by omega
      have HB := Lib.hid (plcB_is (h := h) (p := p) (b := k) (by omega) hall.out (decide_eq_true hh))
      clear hh
      go_wp2_with (first | (refine wl_load_row rfl 49 _ rfl w.heap.size rfl 49 (hcells h) (0, 0) _ (by first | assumption | exact heap_alloc_new w _) histU rfl (histRow hl) ?_) | (go_at_call 32; refine (refTotal_any h hl _).mono ?_; rintro e w2 ⟨rfl, hb2⟩; have hA2 := kept hb2 hA; have hbel2 := bthen hbel hb2; clear hb2 hA hbel))
      go_ret
      exact ⟨ret_int (by rw [HB.out]), hbel2⟩
    · have hh' : 100 * tw (h.take (k + 1)) < tw h * p := by omega
      have hk15 : k < 15 := by
        rcases Nat.lt_or_ge k 15 with h1 | h1
        · exact h1
        · exfalso
          obtain rfl : k = 15 := by omega
          exact hh (of_decide_eq_true (hit_15 hl hr hp2))
      have HN := Lib.hid (show ∀ j, j < k + 1 → hit h p j = false from fun j hj => by
        by_cases e : j = k
        · subst e; exact decide_eq_false hh
        · exact hall.out j (by omega))
      have HT := Lib.hid (tw_take h (k + 1) (by omega))
      have hx := HR.out _ (nth_mem h (k + 1) (by omega))
      obtain ⟨hx0, hx1⟩ := hx
      have hkI : (k : Int) + 1 < 16 := by omega
      clear hh
      go_wp2_with (first | (refine wl_load_row rfl 49 _ rfl w.heap.size rfl 49 (hcells h) (0, 0) _ (by first | assumption | exact heap_alloc_new w _) histU rfl (histRow hl) ?_) | (go_at_call 32; refine (refTotal_any h hl _).mono ?_; rintro e w2 ⟨rfl, hb2⟩; have hA2 := kept hb2 hA; have hbel2 := bthen hbel hb2; have cH := row_cell (k := k + 1) hA2 (by omega); clear hb2 hA hbel))
      go_roundw
      case rel => exact ⟨k + 1, by omega, by go_num, by rw [HT.out, IntWalk.i64_in _ (by omega)], hA2, hbel2, HN⟩
      case measure => simp [intOf]; omega
end Go.Proofs.Yteifjlhkfmoljaa
