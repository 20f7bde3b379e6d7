/- The page's example; small functions of the law. -/
import Derived.Test.YtddmajgadaooaaaOpT
set_option linter.unusedVariables false
set_option linter.unusedSimpArgs false
namespace Go.Proofs.Ytddmajgadaooaaa
open Go.RowKit

def lop (i s : Int) : OpV := { zeroOp with id := i, st := s }
set_option maxRecDepth 100000 in
theorem lop_built (i s : Int) : Try.prog.built 30 [(0, .int .i64 i), (6, .int .i64 s)] = some (lop i s).cells.toArray := by kernel_rfl
theorem wl_buildL {ops : Array Oper} {rest : List Oper} {o : Oper} {a : Act} {w : World} {Q : Exit → Act → World → Prop} (hg : o.guard = none) {i s : Int} (ho : o.op = .build 30 #[(0, .const (.int .i64 i)), (6, .const (.int .i64 s))])
    (h : wpList Try.prog ops Q rest (a.put o.dst (.agg (lop i s).cells.toArray)) w) : wpList Try.prog ops Q (o :: rest) a w :=
  wl_buildS hg 30 _ ho [(0, .int .i64 i), (6, .int .i64 s)] (by simp; exact ⟨rfl, rfl⟩) _ (lop_built i s) h
theorem num_any (w : World) (x : Int) : Calls Try.prog 18 #[.int .i64 x] w fun e w' => e = .returned (.int .i64 x) ∧ w = w' := by
  go_enter Try.func18, Try.ntmps18
  go_wp2_with fail
  go_ret
  exact ⟨rfl, rfl⟩
set_option maxRecDepth 100000 in
set_option maxHeartbeats 4000000 in
theorem page_any (w : World) : Calls Try.prog 8 #[] w fun e w' => e = .returned (.bool true) ∧ Below w.heap.size w w' := by
  have K1 := Lib.hid (new_T w 1 (by omega))
  go_enter Try.func8, Try.ntmps8
  go_upto_region 2 with (go_at_call 7; refine K1.out.mono ?_; rintro e W1 ⟨t, rfl, hb1, hT1⟩)
  have HB1 := Lib.hid hb1
  obtain ⟨T1, hT1e⟩ : ∃ T1 : Nat → Prop, T1 = fun k => w.heap.size ≤ k ∧ k < W1.heap.size := ⟨_, rfl⟩
  rw [← hT1e] at hT1
  have HTE := Lib.hid hT1e
  have K2 := Lib.hid (add_T hT1 (lop 1 1) (by omega) (by simp))
  clear hT1e hT1 hb1 K1
  go_upto_region 3 with (first
    | (refine wl_buildL rfl rfl ?_)
    | (go_at_call 13; refine K3.out.mono ?_; rintro e W3 ⟨rfl, hu3, hT3⟩)
    | (go_at_call 13; refine K2.out.mono ?_; rintro e W2 ⟨rfl, hu2, hT2⟩; have HU2 := Lib.hid hu2; have K3 := Lib.hid (add_T (show OT _ W2 t 1 2 [lop 1 1] [] from hT2) (lop 2 1) (by omega) (by simp)); clear hu2 hT2 K2))
  have HU3 := Lib.hid hu3
  have K4 := Lib.hid (set_T (show OT _ W3 t 1 3 [lop 1 1, lop 2 1] [] from hT3) (lop 1 4) (by omega) (by simp) (by simp))
  clear hu3 hT3 K3
  go_upto_region 4 with (first
    | (refine wl_buildL rfl rfl ?_)
    | (go_at_call 15; refine K5.out.mono ?_; rintro e W5 ⟨rfl, hu5, hT5⟩)
    | (go_at_call 15; refine K4.out.mono ?_; rintro e W4 ⟨rfl, hu4, hT4⟩; have HU4 := Lib.hid hu4; have K5 := Lib.hid (set_T (show OT _ W4 t 1 3 [lop 2 1] [lop 1 4] from hT4) (lop 2 6) (by omega) (by simp) (by simp)); clear hu4 hT4 K4))
  have HU5 := Lib.hid hu5
  have HT5 := Lib.hid (show OT _ W5 t 1 3 [] [lop 2 6] from hT5)
  have K6 := Lib.hid (get_T HT5.out 1)
  clear hu5 hT5 K5
  go_upto_region 5 with (first
    | (go_at_call 14; refine K6.out.mono ?_; rintro e W6 ⟨rfl, hb6⟩)
    | (refine wpList_store_row rfl 30 _ _ rfl W6.heap.size zeroOp.cells.toArray rfl rfl 30 zeroOp.cells.toArray (heap_alloc_new _ _) (opRow' zeroOp) rfl (opOne zeroOp) ?_))
  show Code.wp _ _ _ _ ((W6.alloc (.cells zeroOp.cells.toArray 30)).setRow W6.heap.size zeroOp.cells.toArray)
  have hb7 : Below W6.heap.size W6 ((W6.alloc (.cells zeroOp.cells.toArray 30)).setRow W6.heap.size zeroOp.cells.toArray) := below_row ((Below.refl _ _).alloc (Nat.le_refl _) _) (Nat.le_refl _) _
  have HB7 := Lib.hid (bthen' hb6 hb7)
  generalize (W6.alloc (.cells zeroOp.cells.toArray 30)).setRow W6.heap.size zeroOp.cells.toArray = W7 at hb7 HB7 ⊢
  clear hb7 hb6 K6
  have HT7 := Lib.hid (HT5.out.below HB7.out)
  have K7 := Lib.hid (get_T HT7.out 2)
  go_upto_region 6 with (first
    | (go_at_call 14; refine K7.out.mono ?_; rintro e W8 ⟨rfl, hb8⟩)
    | (refine wpList_store_row rfl 30 _ _ rfl W8.heap.size (lop 2 6).cells.toArray rfl rfl 30 zeroOp.cells.toArray (heap_alloc_new _ _) (opRow' (lop 2 6)) rfl (opOne (lop 2 6)) ?_))
  show Code.wp _ _ _ _ ((W8.alloc (.cells zeroOp.cells.toArray 30)).setRow W8.heap.size (lop 2 6).cells.toArray)
  have hn9 : ((W8.alloc (.cells zeroOp.cells.toArray 30)).setRow W8.heap.size (lop 2 6).cells.toArray).heap[W8.heap.size]? = some (.cells (lop 2 6).cells.toArray 30 (0, 0)) := setRow_heap _ _ _ _ _ _ (heap_alloc_new _ _)
  have hb9 : Below W8.heap.size W8 ((W8.alloc (.cells zeroOp.cells.toArray 30)).setRow W8.heap.size (lop 2 6).cells.toArray) := below_row ((Below.refl _ _).alloc (Nat.le_refl _) _) (Nat.le_refl _) _
  have HB9 := Lib.hid (bthen' HB7.out (bthen' hb8 hb9))
  generalize (W8.alloc (.cells zeroOp.cells.toArray 30)).setRow W8.heap.size (lop 2 6).cells.toArray = W9 at hn9 hb9 HB9 ⊢
  have k8 : W9.cell? ⟨W8.heap.size, 8, none⟩ = some (.int .i64 6) := by
    have h8 := (op_range hn9) 8 _ rfl
    rw [Nat.zero_add] at h8
    exact h8
  have HT9 := Lib.hid (HT5.out.below HB9.out)
  have KN := Lib.hid (next_T HT9.out)
  clear hb9 hb8 K7 hn9
  rw [show addE 1 (lop 1 1) = 0 from by decide, show addE 2 (lop 2 1) = 0 from by decide, show (got [lop 1 1, lop 2 1] (lop 1 4).id).isSome = true from by decide, show (got [lop 2 1] (lop 2 6).id).isSome = true from by decide,
    show (got [lop 2 6] 1).isSome = false from by decide]
  try rw [show (got [lop 2 6] 2).isSome = true from by decide]
  go_wp2_with (first
    | (go_at_call 18; refine (num_any _ _).mono ?_; rintro e w' ⟨rfl, rfl⟩)
    | (go_at_call 12; refine KN.out.mono ?_; rintro e w' ⟨rfl, rfl⟩))
  go_ret
  have hP : ∀ k, T1 k → w.heap.size ≤ k := fun k hk => by rw [HTE.out] at hk; exact hk.1
  exact ⟨rfl, (UpdP.toB (HU2.out.trans (HU3.out.trans (HU4.out.trans HU5.out))) HB1.out HB1.out.size hP).trans (HB9.out.mono (by
    have h1 := HB1.out.size; have h2 := HU2.out.size; have h3 := HU3.out.size; have h4 := HU4.out.size; have h5 := HU5.out.size; omega))⟩
end Go.Proofs.Ytddmajgadaooaaa
