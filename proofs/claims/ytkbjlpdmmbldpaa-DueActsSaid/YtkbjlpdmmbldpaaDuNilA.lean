/- Nothing of a due that nobody made. -/
import Derived.Test.YtkbjlpdmmbldpaaDuLive
set_option linter.unusedVariables false
set_option linter.unusedSimpArgs false
set_option maxRecDepth 100000
namespace Go.Proofs.Ytkbjlpdmmbldpaa
open Go.RowKit

set_option maxHeartbeats 4000000 in
theorem dueNil_any (w : World) (x : Tm) : Calls Try.prog 8 #[timR.val x] w fun e w' => e = .returned (.bool true) ∧ Below w.heap.size w w' := by
  have hb1 : Below w.heap.size w (w.alloc (.cells (timR.cells x).toArray 54)) := (Below.refl _ _).alloc (Nat.le_refl _) _
  have hn1 := heap_alloc_new w (.cells (timR.cells x).toArray 54)
  have r1 := row_reads (R := timR) x hn1
  obtain ⟨W1, hW1⟩ : ∃ W1, W1 = w.alloc (.cells (timR.cells x).toArray 54) := ⟨_, rfl⟩
  rw [← hW1] at hb1 r1
  have HB := Lib.hid hb1
  obtain ⟨q, hq⟩ : ∃ q, q = w.heap.size := ⟨_, rfl⟩
  rw [← hq] at r1
  have R1 := Lib.hid r1
  have a0 : W1.cell? ⟨q, 0, none⟩ = some (.int .i64 x.k) := r1 0 _ rfl
  have a1 : W1.cell? ⟨q, 1, none⟩ = some (.int .i64 x.id) := r1 1 _ rfl
  have a2 : W1.cell? ⟨q, 2, none⟩ = some (.int .u64 (x.t : Int)) := r1 2 _ rfl
  clear hb1 hn1 r1
  go_enter Try.func8, Try.ntmps8
  go_upto_region 1 with fail
  show Code.wp _ _ _ _ (w.alloc (.cells (timR.cells x).toArray 54))
  rw [← hW1, ← hq]
  clear hW1 hq
  go_upto_region 4 with (first
    | (go_at_call 30; refine (dnext_nil _).mono ?_; rintro e w' ⟨rfl, rfl⟩)
    | (go_at_call 34; refine (dat_nil _ _ _).mono ?_; rintro e w' ⟨rfl, rfl⟩))
  go_upto_region 5 with (first
    | (go_at_call 29; refine (dfirst_nil _ _).mono ?_; rintro e W2 ⟨rfl, hb2⟩)
    | (refine wpList_store_mid rfl 54 _ _ rfl W2.heap.size 0 (timR.cells zeroTm).toArray rfl rfl (freshR_there timOk W2 zeroTm) (timOk.row' zeroTm) (timOk.one' zeroTm) ?_; show wpList _ _ _ _ _ (freshR timR W2 zeroTm); have hb3 := bthen' hb2 (freshR_below (R := timR) W2 zeroTm); generalize freshR timR W2 zeroTm = W3 at hb3 ⊢))
  have r3 := below_range hb3 R1.out
  have c0 : W3.cell? ⟨q, 0, none⟩ = some (.int .i64 x.k) := r3 0 _ rfl
  have c1 : W3.cell? ⟨q, 1, none⟩ = some (.int .i64 x.id) := r3 1 _ rfl
  have c2 : W3.cell? ⟨q, 2, none⟩ = some (.int .u64 (x.t : Int)) := r3 2 _ rfl
  have HB3 := Lib.hid (bthen' HB.out hb3)
  clear hb2 hb3 r3 a0 a1 a2
  go_wp2_with (first
    | (go_at_call 25; refine (live09_any _).mono ?_; rintro e W9 ⟨rfl, hb9⟩)
    | (go_at_call 28; refine (dlen_nil _).mono ?_; rintro e w' ⟨rfl, rfl⟩)
    | (go_at_call 37; refine (dnow_nil _).mono ?_; rintro e w' ⟨rfl, rfl⟩)
    | (go_at_call 31; refine (dgo_nil _ _).mono ?_; rintro e w' ⟨rfl, rfl⟩)
    | (go_at_call 39; refine (dclear_nil _ _ _).mono ?_; rintro e W4 ⟨rfl, hb4⟩; have c24 := below_cell hb4 c2)
    | (go_at_call 38; refine (num09_any _ _).mono ?_; rintro e w' ⟨rfl, rfl⟩)
    | (go_at_call 27; refine (dset_nil _ _ _ _).mono ?_; rintro e w' ⟨rfl, rfl⟩))
  go_ret
  exact ⟨rfl, bthen' (bthen' HB3.out hb4) hb9⟩
end Go.Proofs.Ytkbjlpdmmbldpaa
