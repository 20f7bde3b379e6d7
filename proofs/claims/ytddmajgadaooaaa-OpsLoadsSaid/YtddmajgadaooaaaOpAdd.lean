/- Add of a table of operations; Add and Set of none. -/
import Derived.Test.YtddmajgadaooaaaOpSet
set_option linter.unusedVariables false
namespace Go.Proofs.Ytddmajgadaooaaa
open Go.RowKit

set_option maxRecDepth 100000 in
theorem add_nil (w : World) (o : OpV) : Calls Try.prog 13 #[.pointer none, .agg o.cells.toArray] w fun e w' => e = .returned (.int .i64 19) ∧ Below w.heap.size w w' := by
  go_enter Try.func13, Try.ntmps13
  go_wp2_with fail
  go_ret
  exact ⟨rfl, (Below.refl _ _).alloc (Nat.le_refl _) _⟩
set_option maxRecDepth 100000 in
set_option maxHeartbeats 4000000 in
theorem set_nil (w : World) (o : OpV) : Calls Try.prog 15 #[.pointer none, .agg o.cells.toArray] w fun e w' => e = .returned (.bool false) ∧ Below w.heap.size w w' := by
  have hb1 : Below w.heap.size w (w.alloc (.cells o.cells.toArray 30)) := (Below.refl _ _).alloc (Nat.le_refl _) _
  have hn1 : (w.alloc (.cells o.cells.toArray 30)).heap[w.heap.size]? = some (.cells o.cells.toArray 30 (0, 0)) := heap_alloc_new _ _
  obtain ⟨W1, hW1⟩ : ∃ W1, W1 = w.alloc (.cells o.cells.toArray 30) := ⟨_, rfl⟩
  rw [← hW1] at hb1 hn1
  have HB1 := Lib.hid hb1
  have KG := Lib.hid (get_nil W1 o.id)
  have k0 : W1.cell? ⟨w.heap.size, 0, none⟩ = some (.int .i64 o.id) := by simpa using (op_range hn1) 0 _ rfl
  clear hn1
  go_enter Try.func15, Try.ntmps15
  go_upto_region 1 with fail
  show Code.wp _ _ _ _ (w.alloc (.cells o.cells.toArray 30))
  rw [← hW1]
  clear hW1 hb1
  go_upto_region 2 with (first
    | (go_at_call 14; refine KG.out.mono ?_; rintro e W2 ⟨rfl, hb2⟩)
    | (refine wpList_store_row rfl 30 _ _ rfl W2.heap.size zeroOp.cells.toArray rfl rfl 30 zeroOp.cells.toArray (heap_alloc_new _ _) (opRow' zeroOp) rfl (opOne zeroOp) ?_))
  show Code.wp _ _ _ _ ((W2.alloc (.cells zeroOp.cells.toArray 30)).setRow W2.heap.size zeroOp.cells.toArray)
  have hb3 : Below W2.heap.size W2 ((W2.alloc (.cells zeroOp.cells.toArray 30)).setRow W2.heap.size zeroOp.cells.toArray) := below_row ((Below.refl _ _).alloc (Nat.le_refl _) _) (Nat.le_refl _) _
  have HB3 := Lib.hid (bthen' hb2 hb3)
  generalize (W2.alloc (.cells zeroOp.cells.toArray 30)).setRow W2.heap.size zeroOp.cells.toArray = W3 at hb3 HB3 ⊢
  clear hb2 hb3 k0
  (try simp only [Act.put])
  go_wp2_with fail
  go_ret
  exact ⟨rfl, bthen' HB1.out HB3.out⟩

/-- Adding what may not be added. -/
def addBad (next : Int) (o : OpV) : Bool := decide (o.id ≠ next) || term o.st
def AddP (T : Nat → Prop) (w : World) (t : Nat) (keep next : Int) (m fm : Nat) (A D : List Int) (M : Int → Option Value) (fl : Fli → List Int) (o : OpV) (e : Ending) (w' : World) : Prop :=
  e = .returned (.int .i64 0) ∧ UpdP T w w' ∧ ∃ lv ev sl, OMem (Gr T w w') w' t keep (next + 1) lv ev m fm sl (A ++ [o.id]) D (oneM M o) (updF fl o.fli (fl o.fli ++ [o.id]))

set_option maxRecDepth 100000 in
set_option maxHeartbeats 4000000 in
theorem add_bad (T : Nat → Prop) (w : World) (t : Nat) (keep next : Int) (lv ev : Value) (m fm : Nat) (sl : Fli → Value) (A D : List Int) (M : Int → Option Value) (fl : Fli → List Int) (h : OMem T w t keep next lv ev m fm sl A D M fl) (o : OpV) (hbad : addBad next o = true) :
    Calls Try.prog 13 #[.pointer (some ⟨t, 0, none⟩), .agg o.cells.toArray] w fun e w' => e = .returned (.int .i64 1) ∧ Below w.heap.size w w' := by
  have hb1 : Below w.heap.size w (w.alloc (.cells o.cells.toArray 30)) := (Below.refl _ _).alloc (Nat.le_refl _) _
  have hn1 : (w.alloc (.cells o.cells.toArray 30)).heap[w.heap.size]? = some (.cells o.cells.toArray 30 (0, 0)) := heap_alloc_new _ _
  obtain ⟨W1, hW1⟩ : ∃ W1, W1 = w.alloc (.cells o.cells.toArray 30) := ⟨_, rfl⟩
  rw [← hW1] at hb1 hn1
  have HM1 := Lib.hid (h.below hb1)
  have HB1 := Lib.hid hb1
  have k0 : W1.cell? ⟨w.heap.size, 0, none⟩ = some (.int .i64 o.id) := by simpa using (op_range hn1) 0 _ rfl
  have k8 : W1.cell? ⟨w.heap.size, 8, none⟩ = some (.int .i64 o.st) := by simpa using (op_range hn1) 8 _ rfl
  have c1 := HM1.out.box.get (i := 1) rfl
  have KO := Lib.hid (fun W => terminal_any o.st W)
  clear h hn1
  go_enter Try.func13, Try.ntmps13
  go_upto_region 3 with fail
  show Code.wp _ _ _ _ (w.alloc (.cells o.cells.toArray 30))
  rw [← hW1]
  clear hW1 hb1
  have d0 := fun (z : Later W1) => z.cell k0
  have d1 := fun (z : Later W1) => z.cell k8
  have d2 := fun (z : Later W1) => z.cell c1
  cases hid : decide (o.id = next) with
  | true =>
    have hide : o.id = next := of_decide_eq_true hid
    have ht : term o.st = true := by unfold addBad at hbad; rw [show decide (o.id ≠ next) = false from by simp [hide]] at hbad; simpa using hbad
    rw [ht] at KO
    have hidn : (!(o.id == next)) = false := by simp [hide]
    clear hid hbad ht
    refine Mix.wp_region_mix [([0, 1, 2, 3, 4, 5, 6, 7, 8, 9], 10)] [11, 12] (fun w' => ∃ x : Later W1, w' = x.w) (by kernel_rfl) (by kernel_rfl) (Mix.later_drew W1) ?_
    have hb2 : Below W1.heap.size W1 W1.drew := (Below.refl _ _).drew
    generalize W1.drew = W2 at hb2 ⊢
    refine Mix.stages_cons ?_
    simp only [Mix.pickL, List.getElem?_cons_zero, List.getElem?_cons_succ]
    repeat (first
      | go_big_quiet_skip
      | (go_big_quiet_want; (go_big_quiet_op; go_big_quiet_on)))
    refine wpQuiet_nil ?_
    go_wp2_with (go_at_call 26; refine (KO.out _).mono ?_; rintro e w' ⟨rfl, rfl⟩)
    refine Mix.onward_normal (W := W1) hb2 ?_
    refine Mix.stages_nil ?_
    simp only [Mix.pickL, List.getElem?_cons_zero, List.getElem?_cons_succ]
    have d0' := fun (z : Later W2) => z.cell (below_cell hb2 k0)
    repeat (first
      | go_big_quiet_skip
      | (go_big_quiet_want; (go_big_quiet_op; go_big_quiet_on)))
    refine wpQuiet_nil ?_
    clear d0 d1 d2 d0'
    go_wp2_with fail
    go_ret
    exact ⟨rfl, bthen' HB1.out hb2⟩
  | false =>
    have hide : ¬ o.id = next := of_decide_eq_false hid
    have hidn : (o.id != next) = true := by simp [hide]
    clear hid hbad
    refine Mix.wp_region_mix [([0, 1, 2, 3, 4, 5, 6, 7, 8, 9], 10)] [11, 12] (fun w' => ∃ x : Later W1, w' = x.w) (by kernel_rfl) (by kernel_rfl) (Mix.later_drew W1) ?_
    have hb2 : Below W1.heap.size W1 W1.drew := (Below.refl _ _).drew
    generalize W1.drew = W2 at hb2 ⊢
    refine Mix.stages_cons ?_
    simp only [Mix.pickL, List.getElem?_cons_zero, List.getElem?_cons_succ]
    repeat (first
      | go_big_quiet_skip
      | (go_big_quiet_want; (go_big_quiet_op; go_big_quiet_on)))
    refine wpQuiet_nil ?_
    go_wp2_with fail
    refine Mix.onward_normal (W := W1) hb2 ?_
    refine Mix.stages_nil ?_
    simp only [Mix.pickL, List.getElem?_cons_zero, List.getElem?_cons_succ]
    repeat (first
      | go_big_quiet_skip
      | (go_big_quiet_want; (go_big_quiet_op; go_big_quiet_on)))
    refine wpQuiet_nil ?_
    clear d0 d1 d2
    go_wp2_with fail
    go_ret
    exact ⟨rfl, bthen' HB1.out hb2⟩

set_option maxRecDepth 100000 in
set_option maxHeartbeats 4000000 in
theorem add_ok (T : Nat → Prop) (w : World) (t : Nat) (keep next : Int) (lv ev : Value) (m fm : Nat) (sl : Fli → Value) (A D : List Int) (M : Int → Option Value) (fl : Fli → List Int) (h : OMem T w t keep next lv ev m fm sl A D M fl) (o : OpV) (hbad : addBad next o = false) (hn : 0 ≤ next ∧ next ≤ 1000000)
    (hA : A.length ≤ 1000) (hfl : (fl o.fli).length ≤ 1000) :
    Calls Try.prog 13 #[.pointer (some ⟨t, 0, none⟩), .agg o.cells.toArray] w (AddP T w t keep next m fm A D M fl o) := by
  have hb1 : Below w.heap.size w (w.alloc (.cells o.cells.toArray 30)) := (Below.refl _ _).alloc (Nat.le_refl _) _
  have hn1 : (w.alloc (.cells o.cells.toArray 30)).heap[w.heap.size]? = some (.cells o.cells.toArray 30 (0, 0)) := heap_alloc_new _ _
  have hlt0 := h.lt
  have N1 := Lib.hid ((Now.start h).below hb1)
  obtain ⟨W1, hW1⟩ : ∃ W1, W1 = w.alloc (.cells o.cells.toArray 30) := ⟨_, rfl⟩
  rw [← hW1] at hb1 hn1 N1
  have HN := Lib.hid hn1
  have k0 : W1.cell? ⟨w.heap.size, 0, none⟩ = some (.int .i64 o.id) := by simpa using (op_range hn1) 0 _ rfl
  have k8 : W1.cell? ⟨w.heap.size, 8, none⟩ = some (.int .i64 o.st) := by simpa using (op_range hn1) 8 _ rfl
  have c1 := N1.out.m.box.get (i := 1) rfl
  have KO := Lib.hid (fun W => terminal_any o.st W)
  clear h hn1
  unfold addBad at hbad
  rw [Bool.or_eq_false_iff] at hbad
  obtain ⟨hb1', hb2'⟩ := hbad
  have hide : o.id = next := by simpa using hb1'
  rw [hb2'] at KO
  have hidn : (!(o.id == next)) = false := by simp [hide]
  have HID := Lib.hid hide
  have HT := Lib.hid hlt0
  clear hb1' hb2' hlt0
  go_enter Try.func13, Try.ntmps13
  go_upto_region 3 with fail
  show Code.wp _ _ _ _ (w.alloc (.cells o.cells.toArray 30))
  rw [← hW1]
  clear hW1 hb1
  have d0 := fun (z : Later W1) => z.cell k0
  have d1 := fun (z : Later W1) => z.cell k8
  have d2 := fun (z : Later W1) => z.cell c1
  refine Mix.wp_region_mix [([0, 1, 2, 3, 4, 5, 6, 7, 8, 9], 10)] [11, 12] (fun w' => ∃ x : Later W1, w' = x.w) (by kernel_rfl) (by kernel_rfl) (Mix.later_drew W1) ?_
  have hb2 : Below W1.heap.size W1 W1.drew := (Below.refl _ _).drew
  generalize W1.drew = W2 at hb2 ⊢
  refine Mix.stages_cons ?_
  simp only [Mix.pickL, List.getElem?_cons_zero, List.getElem?_cons_succ]
  repeat (first
    | go_big_quiet_skip
    | (go_big_quiet_want; (go_big_quiet_op; go_big_quiet_on)))
  refine wpQuiet_nil ?_
  go_wp2_with (go_at_call 26; refine (KO.out _).mono ?_; rintro e w' ⟨rfl, rfl⟩)
  refine Mix.onward_normal (W := W1) hb2 ?_
  refine Mix.stages_nil ?_
  simp only [Mix.pickL, List.getElem?_cons_zero, List.getElem?_cons_succ]
  repeat (first
    | go_big_quiet_skip
    | (go_big_quiet_want; (go_big_quiet_op; go_big_quiet_on)))
  refine wpQuiet_nil ?_
  clear d0 d1 d2
  have N2 := Lib.hid (N1.out.below hb2)
  have HN2 := Lib.hid (kept hb2 HN.out)
  have r2 := op_range HN2.out
  clear k0 k8 c1 hb2
  have KE := Lib.hid (enter_any T W2 t keep next lv ev m fm sl A D M fl N2.out.m o hA hfl)
  go_wp2_with (first
    | (refine wpList_load_mid rfl 30 _ rfl w.heap.size 0 rfl o.cells _ r2 Try.underlying30 rfl (opRow o) ?_)
    | (go_at_call 27; refine KE.out.mono ?_; rintro e W3 ⟨rfl, hu3, lv3, sl3, hm3⟩; have c3 := hm3.box.get (i := 1) rfl; have f3 := hm3.box.free (i := 1) rfl; have HM3 := Lib.hid hm3; have HU3 := Lib.hid hu3; clear hm3 hu3))
  go_ret
  have N3 := N2.out.step HU3.out HM3.out (fun k hk => hk)
  have N4 := N3.next1 (next + 1)
  exact ⟨rfl, N4.u, lv3, ev, sl3, N4.fin HT.out⟩
end Go.Proofs.Ytddmajgadaooaaa
