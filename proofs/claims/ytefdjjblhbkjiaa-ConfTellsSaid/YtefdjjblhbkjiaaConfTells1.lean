/- Classes, limits, attempts: the program's, and the reference's. -/
import Derived.Test.YtefdjjblhbkjiaaConfRefCheck
set_option linter.unusedVariables false
namespace Go.Proofs.Ytefdjjblhbkjiaa
open Go.RowKit

def classesv (c : Cfg) : Int := if checkv c = 0 then (c.L.length : Int) + 1 else 0
def limitv (c : Cfg) (k : Int) : Int := if checkv c = 0 ∧ 0 ≤ k then (c.L[k.toNat]?).getD 0 else 0
def attv (c : Cfg) : Int := if checkv c = 0 then 1 + c.retries + c.preempts else 0
theorem checkv_zero {c : Cfg} (h : checkv c = 0) : c.L.length ≤ 3 ∧ (0 ≤ c.retries ∧ c.retries ≤ 5) ∧ 0 ≤ c.preempts ∧ c.preempts ≤ 5 := by
  unfold checkv at h
  split at h
  · contradiction
  · split at h
    · cases h
    · split at h
      · rename_i h1 h2 h3
        have h4 := h3.2
        rw [spans_abd, Bool.and_eq_true, Bool.and_eq_true] at h4
        have h5 := h4.1.2
        unfold bV at h5
        simp only [Bool.and_eq_true, inB_true] at h5
        omega
      · cases h
theorem classesv_no {c : Cfg} (h : ¬ checkv c = 0) : classesv c = 0 := by unfold classesv; rw [if_neg h]
theorem classesv_yes {c : Cfg} (h : checkv c = 0) : classesv c = (c.L.length : Int) + 1 := by unfold classesv; rw [if_pos h]
theorem attv_no {c : Cfg} (h : ¬ checkv c = 0) : attv c = 0 := by unfold attv; rw [if_neg h]
theorem attv_yes {c : Cfg} (h : checkv c = 0) : attv c = 1 + c.retries + c.preempts := by unfold attv; rw [if_pos h]
theorem limitv_no {c : Cfg} {k : Int} (h : ¬ (checkv c = 0 ∧ 0 ≤ k)) : limitv c k = 0 := by unfold limitv; rw [if_neg h]
theorem limitv_far {c : Cfg} {k : Int} (h : ¬ k < c.L.length) : limitv c k = 0 := by
  unfold limitv
  split
  · rw [List.getElem?_eq_none (by omega)]; rfl
  · rfl
theorem limitv_yes {c : Cfg} {n : Nat} {y : Int} (h : checkv c = 0) (hy : c.L[n]? = some y) : limitv c (n : Int) = y := by
  unfold limitv; rw [if_pos ⟨h, by omega⟩, Int.toNat_natCast, hy]; rfl

theorem right_any (w : World) (c : Cfg) (hc : c.In w) (hf : c.Few) : Calls Try.prog 29 #[.agg c.cells.toArray] w fun e w' => e = .returned (.bool (checkv c == 0)) ∧ Below w.heap.size w w' := by
  have hA := CfgAt.new c w
  have hb1 : Below w.heap.size w (w.alloc (.cells c.cells.toArray 25)) := (Below.refl _ _).alloc (Nat.le_refl _) _
  have KC := Lib.hid (refCheck_any _ c (hc.below hb1) hf)
  go_enter Try.func29, Try.ntmps29
  go_wp2_with (first
    | (refine wl_load_row rfl 25 _ rfl w.heap.size rfl 25 c.cells.toArray (0, 0) _ hA Try.underlying25 rfl (cfgRow' c) ?_)
    | (go_at_call 8; refine KC.out.mono ?_; rintro e W2 ⟨rfl, hb2⟩))
  go_ret
  exact ⟨rfl, bthen' hb1 hb2⟩

set_option maxRecDepth 100000 in
set_option maxHeartbeats 2000000 in
theorem confClasses_any (w : World) (c : Cfg) (hc : c.In w) (hf : c.Few) : Calls Try.prog 11 #[.agg c.cells.toArray] w fun e w' => e = .returned (.int .i64 (classesv c)) ∧ Below w.heap.size w w' := by
  have hA := CfgAt.new c w
  have hb1 : Below w.heap.size w (w.alloc (.cells c.cells.toArray 25)) := (Below.refl _ _).alloc (Nat.le_refl _) _
  have hc1 := hc.below hb1
  have KC := Lib.hid (check_any _ c hc1 hf)
  obtain ⟨av, capv, hvl⟩ := hc1.l.form
  obtain ⟨c0, c1, c2, c3, c4, c5, c6, c7, c8, c9, -⟩ := nineteen hA.range
  rw [hvl] at c1
  clear c0 c2 c3 c4 c5 c6 c7 c8 c9
  by_cases h : checkv c = 0
  · have HE := Lib.hid (classesv_yes h)
    have hl := (checkv_zero h).1
    rw [h] at KC
    clear h
    go_enter Try.func11, Try.ntmps11
    go_wp2_with (first
      | (refine wl_load_row rfl 25 _ rfl w.heap.size rfl 25 c.cells.toArray (0, 0) _ hA Try.underlying25 rfl (cfgRow' c) ?_)
      | (go_at_call 7; refine KC.out.mono ?_; rintro e W2 ⟨rfl, hb2⟩; have d1 := below_cell hb2 c1; clear c1))
    go_ret
    exact ⟨by rw [HE.out]; rfl, bthen' hb1 hb2⟩
  · have HE := Lib.hid (classesv_no h)
    have hnz : ¬ (checkv c = 0) := h
    clear h
    go_enter Try.func11, Try.ntmps11
    go_wp2_with (first
      | (refine wl_load_row rfl 25 _ rfl w.heap.size rfl 25 c.cells.toArray (0, 0) _ hA Try.underlying25 rfl (cfgRow' c) ?_)
      | (go_at_call 7; refine KC.out.mono ?_; rintro e W2 ⟨rfl, hb2⟩; skip))
    go_ret
    exact ⟨by rw [HE.out]; rfl, bthen' hb1 hb2⟩

set_option maxRecDepth 100000 in
set_option maxHeartbeats 2000000 in
theorem confAttempts_any (w : World) (c : Cfg) (hc : c.In w) (hf : c.Few) : Calls Try.prog 15 #[.agg c.cells.toArray] w fun e w' => e = .returned (.int .i64 (attv c)) ∧ Below w.heap.size w w' := by
  have hA := CfgAt.new c w
  have hb1 : Below w.heap.size w (w.alloc (.cells c.cells.toArray 25)) := (Below.refl _ _).alloc (Nat.le_refl _) _
  have hc1 := hc.below hb1
  have KC := Lib.hid (check_any _ c hc1 hf)
  obtain ⟨av, capv, hvl⟩ := hc1.l.form
  obtain ⟨c0, c1, c2, c3, c4, c5, c6, c7, c8, c9, -⟩ := nineteen hA.range
  rw [hvl] at c1
  clear c0 c2 c3 c4 c5 c6 c7 
  by_cases h : checkv c = 0
  · have HE := Lib.hid (attv_yes h)
    obtain ⟨-, ⟨b1, b2⟩, b3, b4⟩ := checkv_zero h
    rw [h] at KC
    clear h
    go_enter Try.func15, Try.ntmps15
    go_wp2_with (first
      | (refine wl_load_row rfl 25 _ rfl w.heap.size rfl 25 c.cells.toArray (0, 0) _ hA Try.underlying25 rfl (cfgRow' c) ?_)
      | (go_at_call 7; refine KC.out.mono ?_; rintro e W2 ⟨rfl, hb2⟩; have d8 := below_cell hb2 c8; have d9 := below_cell hb2 c9; clear c8 c9))
    go_ret
    exact ⟨by rw [HE.out]; rfl, bthen' hb1 hb2⟩
  · have HE := Lib.hid (attv_no h)
    have hnz : ¬ (checkv c = 0) := h
    clear h
    go_enter Try.func15, Try.ntmps15
    go_wp2_with (first
      | (refine wl_load_row rfl 25 _ rfl w.heap.size rfl 25 c.cells.toArray (0, 0) _ hA Try.underlying25 rfl (cfgRow' c) ?_)
      | (go_at_call 7; refine KC.out.mono ?_; rintro e W2 ⟨rfl, hb2⟩; skip))
    go_ret
    exact ⟨by rw [HE.out]; rfl, bthen' hb1 hb2⟩

set_option maxRecDepth 100000 in
set_option maxHeartbeats 2000000 in
theorem confLimit_any (w : World) (c : Cfg) (hc : c.In w) (hf : c.Few) (k : Int) : Calls Try.prog 13 #[.agg c.cells.toArray, .int .i64 k] w fun e w' => e = .returned (.int .i64 (limitv c k)) ∧ Below w.heap.size w w' := by
  have hA := CfgAt.new c w
  have hb1 : Below w.heap.size w (w.alloc (.cells c.cells.toArray 25)) := (Below.refl _ _).alloc (Nat.le_refl _) _
  have hc1 := hc.below hb1
  have KC := Lib.hid (check_any _ c hc1 hf)
  obtain ⟨av, capv, hvl⟩ := hc1.l.form
  obtain ⟨c0, c1, c2, c3, c4, c5, c6, c7, c8, c9, -⟩ := nineteen hA.range
  rw [hvl] at c1
  clear c0 c2 c3 c4 c5 c6 c7 c8 c9
  by_cases h : checkv c = 0
  · rw [h] at KC
    by_cases h0 : 0 ≤ k
    · by_cases h1 : k < c.L.length
      · obtain ⟨n, rfl⟩ := Int.eq_ofNat_of_zero_le h0
        obtain ⟨y, hy⟩ : ∃ y, c.L[n]? = some y := ⟨_, List.getElem?_eq_getElem (by omega)⟩
        have HE := Lib.hid (limitv_yes h hy)
        have hlt : n < c.L.length := by omega
        have hsm := (checkv_zero h).1
        have hl1 := hc1.l
        rw [hvl] at hl1
        obtain ⟨b, off, rfl, hr⟩ := hl1.at hy
        have m0 : (w.alloc (.cells c.cells.toArray 25)).cell? ⟨b, off + n, none⟩ = some (.int .i64 y) := by have := hr 0 _ rfl; simpa [intR] using this
        clear hy hr hvl hl1 hc hc1 h0
        clear h
        go_enter Try.func13, Try.ntmps13
        go_wp2_with (first
          | (refine wl_load_row rfl 25 _ rfl w.heap.size rfl 25 c.cells.toArray (0, 0) _ hA Try.underlying25 rfl (cfgRow' c) ?_)
          | (go_at_call 7; refine KC.out.mono ?_; rintro e W2 ⟨rfl, hb2⟩; have d1 := below_cell hb2 c1; have m1 := below_cell hb2 m0; clear c1 m0))
        go_ret
        exact ⟨by rw [HE.out]; rfl, bthen' hb1 hb2⟩
      · have HE := Lib.hid (limitv_far h1)
        clear h
        go_enter Try.func13, Try.ntmps13
        go_wp2_with (first
          | (refine wl_load_row rfl 25 _ rfl w.heap.size rfl 25 c.cells.toArray (0, 0) _ hA Try.underlying25 rfl (cfgRow' c) ?_)
          | (go_at_call 7; refine KC.out.mono ?_; rintro e W2 ⟨rfl, hb2⟩; have d1 := below_cell hb2 c1; clear c1))
        go_ret
        exact ⟨by rw [HE.out]; rfl, bthen' hb1 hb2⟩
    · have HE := Lib.hid (limitv_no (c := c) (k := k) (fun x => h0 x.2))
      clear h
      go_enter Try.func13, Try.ntmps13
      go_wp2_with (first
        | (refine wl_load_row rfl 25 _ rfl w.heap.size rfl 25 c.cells.toArray (0, 0) _ hA Try.underlying25 rfl (cfgRow' c) ?_)
        | (go_at_call 7; refine KC.out.mono ?_; rintro e W2 ⟨rfl, hb2⟩; have d1 := below_cell hb2 c1; clear c1))
      go_ret
      exact ⟨by rw [HE.out]; rfl, bthen' hb1 hb2⟩
  · have HE := Lib.hid (limitv_no (c := c) (k := k) (fun x => h x.1))
    have hnz : ¬ (checkv c = 0) := h
    clear h
    go_enter Try.func13, Try.ntmps13
    go_wp2_with (first
      | (refine wl_load_row rfl 25 _ rfl w.heap.size rfl 25 c.cells.toArray (0, 0) _ hA Try.underlying25 rfl (cfgRow' c) ?_)
      | (go_at_call 7; refine KC.out.mono ?_; rintro e W2 ⟨rfl, hb2⟩; have d1 := below_cell hb2 c1; clear c1))
    go_ret
    exact ⟨by rw [HE.out]; rfl, bthen' hb1 hb2⟩

set_option maxRecDepth 100000 in
set_option maxHeartbeats 2000000 in
theorem refClasses_any (w : World) (c : Cfg) (hc : c.In w) (hf : c.Few) : Calls Try.prog 12 #[.agg c.cells.toArray] w fun e w' => e = .returned (.int .i64 (classesv c)) ∧ Below w.heap.size w w' := by
  have hA := CfgAt.new c w
  have hb1 : Below w.heap.size w (w.alloc (.cells c.cells.toArray 25)) := (Below.refl _ _).alloc (Nat.le_refl _) _
  have hc1 := hc.below hb1
  have KC := Lib.hid (right_any _ c hc1 hf)
  obtain ⟨av, capv, hvl⟩ := hc1.l.form
  obtain ⟨c0, c1, c2, c3, c4, c5, c6, c7, c8, c9, -⟩ := nineteen hA.range
  rw [hvl] at c1
  clear c0 c2 c3 c4 c5 c6 c7 c8 c9
  by_cases h : checkv c = 0
  · have HE := Lib.hid (classesv_yes h)
    have hl := (checkv_zero h).1
    rw [show (checkv c == 0) = true from by rw [h]; rfl] at KC
    clear h
    go_enter Try.func12, Try.ntmps12
    go_wp2_with (first
      | (refine wl_load_row rfl 25 _ rfl w.heap.size rfl 25 c.cells.toArray (0, 0) _ hA Try.underlying25 rfl (cfgRow' c) ?_)
      | (go_at_call 29; refine KC.out.mono ?_; rintro e W2 ⟨rfl, hb2⟩; have d1 := below_cell hb2 c1; clear c1))
    go_ret
    exact ⟨by rw [HE.out]; rfl, bthen' hb1 hb2⟩
  · have HE := Lib.hid (classesv_no h)
    rw [show (checkv c == 0) = false from by simpa using h] at KC
    clear h
    go_enter Try.func12, Try.ntmps12
    go_wp2_with (first
      | (refine wl_load_row rfl 25 _ rfl w.heap.size rfl 25 c.cells.toArray (0, 0) _ hA Try.underlying25 rfl (cfgRow' c) ?_)
      | (go_at_call 29; refine KC.out.mono ?_; rintro e W2 ⟨rfl, hb2⟩; skip))
    go_ret
    exact ⟨by rw [HE.out]; rfl, bthen' hb1 hb2⟩

set_option maxRecDepth 100000 in
set_option maxHeartbeats 2000000 in
theorem refAttempts_any (w : World) (c : Cfg) (hc : c.In w) (hf : c.Few) : Calls Try.prog 16 #[.agg c.cells.toArray] w fun e w' => e = .returned (.int .i64 (attv c)) ∧ Below w.heap.size w w' := by
  have hA := CfgAt.new c w
  have hb1 : Below w.heap.size w (w.alloc (.cells c.cells.toArray 25)) := (Below.refl _ _).alloc (Nat.le_refl _) _
  have hc1 := hc.below hb1
  have KC := Lib.hid (right_any _ c hc1 hf)
  obtain ⟨av, capv, hvl⟩ := hc1.l.form
  obtain ⟨c0, c1, c2, c3, c4, c5, c6, c7, c8, c9, -⟩ := nineteen hA.range
  rw [hvl] at c1
  clear c0 c2 c3 c4 c5 c6 c7 
  by_cases h : checkv c = 0
  · have HE := Lib.hid (attv_yes h)
    obtain ⟨-, ⟨b1, b2⟩, b3, b4⟩ := checkv_zero h
    rw [show (checkv c == 0) = true from by rw [h]; rfl] at KC
    clear h
    go_enter Try.func16, Try.ntmps16
    go_wp2_with (first
      | (refine wl_load_row rfl 25 _ rfl w.heap.size rfl 25 c.cells.toArray (0, 0) _ hA Try.underlying25 rfl (cfgRow' c) ?_)
      | (go_at_call 29; refine KC.out.mono ?_; rintro e W2 ⟨rfl, hb2⟩; have d8 := below_cell hb2 c8; have d9 := below_cell hb2 c9; clear c8 c9))
    go_ret
    exact ⟨by rw [HE.out]; rfl, bthen' hb1 hb2⟩
  · have HE := Lib.hid (attv_no h)
    rw [show (checkv c == 0) = false from by simpa using h] at KC
    clear h
    go_enter Try.func16, Try.ntmps16
    go_wp2_with (first
      | (refine wl_load_row rfl 25 _ rfl w.heap.size rfl 25 c.cells.toArray (0, 0) _ hA Try.underlying25 rfl (cfgRow' c) ?_)
      | (go_at_call 29; refine KC.out.mono ?_; rintro e W2 ⟨rfl, hb2⟩; skip))
    go_ret
    exact ⟨by rw [HE.out]; rfl, bthen' hb1 hb2⟩

set_option maxRecDepth 100000 in
set_option maxHeartbeats 2000000 in
theorem refLimit_any (w : World) (c : Cfg) (hc : c.In w) (hf : c.Few) (k : Int) : Calls Try.prog 14 #[.agg c.cells.toArray, .int .i64 k] w fun e w' => e = .returned (.int .i64 (limitv c k)) ∧ Below w.heap.size w w' := by
  have hA := CfgAt.new c w
  have hb1 : Below w.heap.size w (w.alloc (.cells c.cells.toArray 25)) := (Below.refl _ _).alloc (Nat.le_refl _) _
  have hc1 := hc.below hb1
  have KC := Lib.hid (right_any _ c hc1 hf)
  obtain ⟨av, capv, hvl⟩ := hc1.l.form
  obtain ⟨c0, c1, c2, c3, c4, c5, c6, c7, c8, c9, -⟩ := nineteen hA.range
  rw [hvl] at c1
  clear c0 c2 c3 c4 c5 c6 c7 c8 c9
  by_cases h : checkv c = 0
  · rw [show (checkv c == 0) = true from by rw [h]; rfl] at KC
    by_cases h0 : 0 ≤ k
    · by_cases h1 : k < c.L.length
      · obtain ⟨n, rfl⟩ := Int.eq_ofNat_of_zero_le h0
        obtain ⟨y, hy⟩ : ∃ y, c.L[n]? = some y := ⟨_, List.getElem?_eq_getElem (by omega)⟩
        have HE := Lib.hid (limitv_yes h hy)
        have hlt : n < c.L.length := by omega
        have hsm := (checkv_zero h).1
        have hl1 := hc1.l
        rw [hvl] at hl1
        obtain ⟨b, off, rfl, hr⟩ := hl1.at hy
        have m0 : (w.alloc (.cells c.cells.toArray 25)).cell? ⟨b, off + n, none⟩ = some (.int .i64 y) := by have := hr 0 _ rfl; simpa [intR] using this
        clear hy hr hvl hl1 hc hc1 h0
        clear h
        go_enter Try.func14, Try.ntmps14
        go_wp2_with (first
          | (refine wl_load_row rfl 25 _ rfl w.heap.size rfl 25 c.cells.toArray (0, 0) _ hA Try.underlying25 rfl (cfgRow' c) ?_)
          | (go_at_call 29; refine KC.out.mono ?_; rintro e W2 ⟨rfl, hb2⟩; have d1 := below_cell hb2 c1; have m1 := below_cell hb2 m0; clear c1 m0))
        go_ret
        exact ⟨by rw [HE.out]; rfl, bthen' hb1 hb2⟩
      · have HE := Lib.hid (limitv_far h1)
        clear h
        go_enter Try.func14, Try.ntmps14
        go_wp2_with (first
          | (refine wl_load_row rfl 25 _ rfl w.heap.size rfl 25 c.cells.toArray (0, 0) _ hA Try.underlying25 rfl (cfgRow' c) ?_)
          | (go_at_call 29; refine KC.out.mono ?_; rintro e W2 ⟨rfl, hb2⟩; have d1 := below_cell hb2 c1; clear c1))
        all_goals try omega
        all_goals go_ret
        all_goals exact ⟨by rw [HE.out]; rfl, bthen' hb1 hb2⟩
    · have HE := Lib.hid (limitv_no (c := c) (k := k) (fun x => h0 x.2))
      clear h
      go_enter Try.func14, Try.ntmps14
      go_wp2_with (first
        | (refine wl_load_row rfl 25 _ rfl w.heap.size rfl 25 c.cells.toArray (0, 0) _ hA Try.underlying25 rfl (cfgRow' c) ?_)
        | (go_at_call 29; refine KC.out.mono ?_; rintro e W2 ⟨rfl, hb2⟩; have d1 := below_cell hb2 c1; clear c1))
      go_ret
      exact ⟨by rw [HE.out]; rfl, bthen' hb1 hb2⟩
  · have HE := Lib.hid (limitv_no (c := c) (k := k) (fun x => h x.1))
    rw [show (checkv c == 0) = false from by simpa using h] at KC
    clear h
    go_enter Try.func14, Try.ntmps14
    go_wp2_with (first
      | (refine wl_load_row rfl 25 _ rfl w.heap.size rfl 25 c.cells.toArray (0, 0) _ hA Try.underlying25 rfl (cfgRow' c) ?_)
      | (go_at_call 29; refine KC.out.mono ?_; rintro e W2 ⟨rfl, hb2⟩; have d1 := below_cell hb2 c1; clear c1))
    go_ret
    exact ⟨by rw [HE.out]; rfl, bthen' hb1 hb2⟩

end Go.Proofs.Ytefdjjblhbkjiaa
