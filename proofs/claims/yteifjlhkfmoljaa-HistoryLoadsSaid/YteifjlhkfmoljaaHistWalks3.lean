/- The document's answer: one runtime more; and the page's examples. -/
import Derived.Test.YteifjlhkfmoljaaHistWalks2
set_option linter.unusedVariables false
namespace Go.Proofs.Yteifjlhkfmoljaa
open Go.RowKit
open HistLaw

/-- The first k are h's, the others noughts. -/
def prt (h : List Int) (k : Nat) : List Int := h.take k ++ List.replicate (16 - k) 0
theorem prt_length (h : List Int) (k : Nat) (hl : h.length = 16) (hk : k ≤ 16) : (prt h k).length = 16 := by simp [prt]; omega
theorem prt_zero (h : List Int) : prt h 0 = zeros := by simp [prt, zeros]
theorem prt_all (h : List Int) (hl : h.length = 16) : prt h 16 = h := by simp [prt, List.take_of_length_le (show h.length ≤ 16 by omega)]
theorem prt_set (h : List Int) (k : Nat) (hl : h.length = 16) (hk : k < 16) : (prt h k).set k (nth h k) = prt h (k + 1) := by
  unfold prt
  rw [take_snoc h k (by omega), List.set_append_right _ _ (by simp; omega)]
  have e : List.replicate (16 - k) (0 : Int) = 0 :: List.replicate (16 - (k + 1)) 0 := by
    rw [show 16 - k = (16 - (k + 1)) + 1 by omega, List.replicate_succ]
  rw [e]
  simp [show min k h.length = k by omega]

theorem row_other {w : World} {g b k : Nat} {v : Value} {o : Option Obj} (hg : w.heap[g]? = o) (hne : g ≠ b) : (w.setCell ⟨b, k, none⟩ v).heap[g]? = o := by rw [heap_setCell_other _ _ _ _ hne, hg]

theorem halve_nth (h : List Int) (k : Nat) (hk : k < h.length) : nth (halve h) k = if tw h = 64 then nth h k / 2 else nth h k := by
  unfold halve
  split
  · simp [nth, hk]
  · rfl

theorem hp_old {w : World} {o : Obj} {i : Nat} (h : i < w.heap.size) : (w.alloc o).heap[i]? = w.heap[i]? := Below.heap_alloc _ _ _ h
/-- Behind the three boxes of a call, and whatever grew since. -/
theorem three_boxes {w w1 : World} {A B C : Obj} (hb : Below (((w.alloc A).alloc B).alloc C).heap.size (((w.alloc A).alloc B).alloc C) w1) : w1.heap[w.heap.size]? = some A ∧ w1.heap[w.heap.size + 1]? = some B ∧ w1.heap[w.heap.size + 1 + 1]? = some C ∧ Below w.heap.size w w1 ∧ w.heap.size + 3 ≤ w1.heap.size := by
  refine ⟨?_, ?_, ?_, ?_, ?_⟩
  · rw [hb.block _ (by simp; omega), hp_old (by simp; omega), heap_alloc2_old]
  · rw [hb.block _ (by simp), hp_old (by simp), heap_alloc2_new]
  · rw [hb.block _ (by simp)]
    have := heap_alloc_new ((w.alloc A).alloc B) C
    simpa using this
  · exact ((((Below.refl _ _).alloc (Nat.le_refl _) _).alloc (by simp) _).alloc (by simp; omega) _).trans (hb.mono (by simp; omega))
  · have := hb.size; simp at this; omega

set_option maxHeartbeats 1000000 in
theorem refAdd_any (h : List Int) (hl : h.length = 16) (v : Nat) (hv : v < 18446744073709551616) (w : World) :
    Calls Try.prog 23 #[.agg (hcells h), .int .u64 v] w fun e w' => e = .returned (.agg (hcells (addH h v))) ∧ Below w.heap.size w w' := by
  by_cases hr : rightB h = true
  · have hbk := buck_le v
    obtain ⟨hall, -, -⟩ := halve_right hl hr
    have hbd : 0 ≤ nth (halve h) (buck v) ∧ nth (halve h) (buck v) ≤ 64 := hall _ (nth_mem _ _ (by rw [halve_length]; omega))
    have hHL : (halve h).length = 16 := by rw [halve_length, hl]
    have HADD := Lib.hid (show addH h v = (halve h).set (buck v) (nth (halve h) (buck v) + 1) from if_pos hr)
    obtain ⟨hbd0, hbd1⟩ := hbd
    have HR := Lib.hid (right_all hr)
    clear hall
    go_enter Try.func23, Try.ntmps23
    go_wp2_with (first | (refine wpList_load_row rfl 49 _ rfl w.heap.size rfl 49 (hcells h) (0, 0) _ (by rw [hp_old (by simp; omega), heap_alloc2_old]) histU rfl (histRow hl) ?_) | (go_at_call 31; refine (refRight_any h hl _).mono ?_; rintro e w1 ⟨rfl, hb1⟩; obtain ⟨hA, hB, hC, hbel, hsz⟩ := three_boxes hb1; clear hb1))
    go_loopw [6] (fun i wr => ∃ k : Nat, k ≤ 16 ∧ i = .int .i64 k ∧ wr.heap[w.heap.size]? = some (.cells (hcells h) 49 (0, 0)) ∧ wr.heap[w.heap.size + 1]? = some (.cells (hcells zeros) 49 (0, 0)) ∧ wr.heap[w.heap.size + 1 + 1]? = some (.cells (hcells (prt (halve h) k)) 49 (0, 0)) ∧ Below w.heap.size w wr) (fun i _ => 16 - (intOf i).toNat)
    case atStart => exact ⟨0, by omega, rfl, hA, hB, by rw [prt_zero]; exact hC, hbel⟩
    case round =>
      clear hA hB hC hbel hsz
      obtain ⟨k, hk, rfl, hA, hB, hC, hbW⟩ := hrel
      by_cases hlt : k < 16
      · have hxy := HR.out _ (nth_mem h k (by omega))
        obtain ⟨hx0, hx1⟩ := hxy
        by_cases hf : tw h = 64
        · have hfb : (tw h == 64) = true := by simp [hf]
          have HN := Lib.hid (show nth (halve h) k = nth h k / 2 by rw [halve_nth h k (by omega), if_pos hf])
          clear hf
          go_wp2_with (first | (refine wpList_load_row rfl 49 _ rfl w.heap.size rfl 49 (hcells h) (0, 0) _ (by assumption) histU rfl (histRow hl) ?_) | (go_at_call 32; refine (refTotal_any h hl _).mono ?_; rintro e w2 ⟨rfl, hb2⟩; have hA2 := kept hb2 hA; have hB2 := kept hb2 hB; have hC2 := kept hb2 hC; have hbel2 := bthen hbW hb2; have hcl := row_cell (k := k) hA2 (by omega); have hfr : w2.frozen? ⟨w.heap.size + 1 + 1, k, none⟩ = false := row_free hC2; have hold := row_cell (k := k) hC2 (by rw [prt_length _ _ hHL (by omega)]; omega); clear hb2 hA hB hC))
          have hC3 := row_set (k := k) (x := nth (halve h) k) hC2
          rw [prt_set _ _ hHL hlt, HN.out] at hC3
          go_roundw
          case rel => exact ⟨k + 1, by omega, by go_num, row_other hA2 (by omega), row_other hB2 (by omega), hC3, hbel2.setCell (by simp; omega) _⟩
          case measure => simp [intOf]; omega
        · have hfb : (tw h == 64) = false := by simp [hf]
          have HN := Lib.hid (show nth (halve h) k = nth h k by rw [halve_nth h k (by omega), if_neg hf])
          clear hf
          go_wp2_with (first | (refine wpList_load_row rfl 49 _ rfl w.heap.size rfl 49 (hcells h) (0, 0) _ (by assumption) histU rfl (histRow hl) ?_) | (go_at_call 32; refine (refTotal_any h hl _).mono ?_; rintro e w2 ⟨rfl, hb2⟩; have hA2 := kept hb2 hA; have hB2 := kept hb2 hB; have hC2 := kept hb2 hC; have hbel2 := bthen hbW hb2; have hcl := row_cell (k := k) hA2 (by omega); have hfr : w2.frozen? ⟨w.heap.size + 1 + 1, k, none⟩ = false := row_free hC2; have hold := row_cell (k := k) hC2 (by rw [prt_length _ _ hHL (by omega)]; omega); clear hb2 hA hB hC))
          have hC3 := row_set (k := k) (x := nth (halve h) k) hC2
          rw [prt_set _ _ hHL hlt, HN.out] at hC3
          go_roundw
          case rel => exact ⟨k + 1, by omega, by go_num, row_other hA2 (by omega), row_other hB2 (by omega), hC3, hbel2.setCell (by simp; omega) _⟩
          case measure => simp [intOf]; omega
      · obtain rfl : k = 16 := by omega
        rw [prt_all _ hHL] at hC
        have hcB : wr.cell? ⟨w.heap.size + 1 + 1, buck v, none⟩ = some (.int .i64 (nth (halve h) (buck v))) := row_cell hC (by omega)
        have hfB : wr.frozen? ⟨w.heap.size + 1 + 1, buck v, none⟩ = false := row_free hC
        have hL := row_set (k := buck v) (x := nth (halve h) (buck v) + 1) hC
        rw [← HADD.out] at hL
        have hB3 : (wr.setCell ⟨w.heap.size + 1 + 1, buck v, none⟩ (.int .i64 (nth (halve h) (buck v) + 1))).heap[w.heap.size + 1]? = some (.cells (hcells zeros) 49 (0, 0)) := row_other hB (by omega)
        have hS := hcells_size (addH h v)
        have hAL := addH_length h v hl
        clear hA hB hC
        go_wp2_with (first | (refine wpList_load_row rfl 49 _ rfl (w.heap.size + 1 + 1) rfl 49 (hcells (addH h v)) (0, 0) _ (by assumption) histU rfl (histRow hAL) ?_) | (refine wpList_store_row rfl 49 _ _ rfl (w.heap.size + 1) (hcells (addH h v)) rfl rfl 49 (hcells zeros) (by assumption) (histRow hAL) (by rw [hS, hAL]; rfl) (hcells_one _) ?_) | (go_at_call 42; refine (refBucket_any v _ hv).mono ?_; rintro e w3 ⟨rfl, rfl⟩))
        refine bodyPost_ret (v := .agg (hcells (addH h v))) (results_cell_row rfl _ _ (w.heap.size + 1) 49 _ (0, 0) _ rfl (setRow_heap _ _ _ _ _ _ hB3) histU rfl (histRow hAL)) rfl ⟨rfl, ?_⟩
        exact below_row (hbW.setCell (by simp; omega) _) (by omega) _
  · have hrb : rightB h = false := by simpa using hr
    have HADD := Lib.hid (show addH h v = zeros by unfold addH; rw [if_neg hr]; rfl)
    clear hr
    go_enter Try.func23, Try.ntmps23
    go_wp2_with (first | (refine wpList_load_row rfl 49 _ rfl w.heap.size rfl 49 (hcells h) (0, 0) _ (by rw [hp_old (by simp; omega), heap_alloc2_old]) histU rfl (histRow hl) ?_) | (refine wpList_load_row rfl 49 _ rfl (w.heap.size + 1 + 1) rfl 49 (hcells zeros) (0, 0) _ (by assumption) histU rfl (histRow rfl) ?_) | (go_at_call 31; refine (refRight_any h hl _).mono ?_; rintro e w1 ⟨rfl, hb1⟩; obtain ⟨hA, hB, hC, hbel, hsz⟩ := three_boxes hb1; clear hb1) | (refine wpList_store_row rfl 49 _ _ rfl (w.heap.size + 1) (hcells zeros) rfl rfl 49 (hcells zeros) (by assumption) (histRow rfl) rfl (hcells_one _) ?_))
    refine bodyPost_ret (v := .agg (hcells (addH h v))) ?_ rfl ⟨rfl, below_row hbel (by omega) _⟩
    rw [HADD.out]
    exact results_cell_row rfl _ _ (w.heap.size + 1) 49 _ (0, 0) _ rfl (setRow_heap _ _ _ _ _ _ hB) histU rfl (histRow rfl)

end Go.Proofs.Yteifjlhkfmoljaa
