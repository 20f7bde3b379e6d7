/- Nothing of none. -/
import Derived.Test.YtegkjbndnonneaaFifoLive
set_option linter.unusedVariables false
namespace Go.Proofs.Ytegkjbndnonneaa
open Go.RowKit

set_option maxRecDepth 100000 in
set_option maxHeartbeats 4000000 in
theorem fifoNil_of (w : World) (x : It) : Calls Try.prog 4 #[.agg (itR.cells x).toArray] w fun e w' => e = .returned (.bool true) ∧ Below w.heap.size w w' := by
  have hr0 := it_range w x 32
  have hb0 : Below w.heap.size w (w.alloc (.cells (itR.cells x).toArray 32)) := (Below.refl _ _).alloc (Nat.le_refl _) _
  obtain ⟨W0, hW0⟩ : ∃ W0, W0 = w.alloc (.cells (itR.cells x).toArray 32) := ⟨_, rfl⟩
  rw [← hW0] at hr0 hb0
  go_enter Try.func4, Try.ntmps4
  go_upto_region 1 with fail
  show Code.wp _ _ _ _ (w.alloc (.cells (itR.cells x).toArray 32))
  rw [← hW0]
  clear hW0
  go_upto_region 3 with (first
    | (go_at_call 14; refine (head_none _).mono ?_; rintro e W1 ⟨rfl, hb1⟩)
    | (refine wpList_store_mid rfl 32 _ _ rfl W1.heap.size 0 (itR.cells zeroIt).toArray rfl rfl (freshR_there itOk W1 zeroIt) (itOk.row' zeroIt) (itOk.one' zeroIt) ?_; show wpList _ _ _ _ _ (freshR itR W1 zeroIt); have hb2 := freshR_below (R := itR) W1 zeroIt; generalize freshR itR W1 zeroIt = W2 at hb2 ⊢))
  have hr2 := below_range (bthen' hb1 hb2) hr0
  have hW2 := Lib.hid (bthen' hb0 (bthen' hb1 hb2))
  clear hr0 hb0 hb1 hb2
  go_upto_region 4 with (first
    | (go_at_call 10; refine (pop_none _).mono ?_; rintro e W3 ⟨rfl, hb3⟩)
    | (refine wpList_store_mid rfl 32 _ _ rfl W3.heap.size 0 (itR.cells zeroIt).toArray rfl rfl (freshR_there itOk W3 zeroIt) (itOk.row' zeroIt) (itOk.one' zeroIt) ?_; show wpList _ _ _ _ _ (freshR itR W3 zeroIt); have hb4 := freshR_below (R := itR) W3 zeroIt; generalize freshR itR W3 zeroIt = W4 at hb4 ⊢))
  have hr4 := below_range (bthen' hb3 hb4) hr2
  have hW4 := Lib.hid (bthen' hW2.out (bthen' hb3 hb4))
  obtain ⟨n0, n1⟩ := two_cells hr4
  clear hr2 hW2 hb3 hb4
  go_upto_region 5 with (first
    | (go_at_call 11; refine (drop_none _ _).mono ?_; rintro e W5 ⟨rfl, hb5⟩)
    | (refine wpList_store_mid rfl 32 _ _ rfl W5.heap.size 0 (itR.cells zeroIt).toArray rfl rfl (freshR_there itOk W5 zeroIt) (itOk.row' zeroIt) (itOk.one' zeroIt) ?_; show wpList _ _ _ _ _ (freshR itR W5 zeroIt); have hb6 := freshR_below (R := itR) W5 zeroIt; generalize freshR itR W5 zeroIt = W6 at hb6 ⊢))
  have hr6 := below_range (bthen' hb5 hb6) hr4
  have hW6 := Lib.hid (bthen' hW4.out (bthen' hb5 hb6))
  clear hr4 hW4 hb5 hb6 n0 n1
  go_wp2_with (first
    | (go_at_call 9; refine (push_none _ _).mono ?_; rintro e W7 ⟨rfl, hb7⟩; obtain ⟨n0, n1⟩ := two_cells (below_range hb7 hr6))
    | (go_at_call 8; refine (num14_any _ _).mono ?_; rintro e w' ⟨rfl, rfl⟩)
    | (go_at_call 20; refine (has_none _ _).mono ?_; rintro e w' ⟨rfl, rfl⟩)
    | (go_at_call 17; refine (len_none _).mono ?_; rintro e w' ⟨rfl, rfl⟩)
    | (go_at_call 18; refine (cost_none _).mono ?_; rintro e w' ⟨rfl, rfl⟩)
    | (go_at_call 16; refine (all_none _).mono ?_; rintro e w' ⟨rfl, rfl⟩)
    | (go_at_call 5; refine (live14_any _).mono ?_; rintro e W8 ⟨rfl, hb8⟩)
    | (refine wpList_load_mid rfl 32 _ rfl w.heap.size 0 rfl (itR.cells x) _ hr6 Try.underlying32 rfl (itOk.row x) ?_))
  go_ret
  exact ⟨rfl, bthen' (bthen' hW6.out hb7) hb8⟩

end Go.Proofs.Ytegkjbndnonneaa
