/- The page's example. -/
import Derived.Test.YtchkbbkcflmcmaaDeadWalks9
set_option linter.unusedVariables false
namespace Go.Proofs.Ytchkbbkcflmcmaa
open Go.RowKit

def letN (n : Int) : Let := ⟨n, 0, 0, 0, ⟨#[]⟩, 0⟩

set_option maxRecDepth 100000 in
set_option maxHeartbeats 1000000 in
theorem live33_any (w : World) : Calls Try.prog 5 #[] w fun e w' => e = .returned (.bool true) ∧ Below w.heap.size w w' := by
  have hid1 : (letN 1).id = 1 := rfl
  have hL : (listv 3 9 [letN 2, letN 3]).length = 1 := by decide +kernel
  go_enter Try.func5, Try.ntmps5
  go_wp2_with fail
  go_at_call 6; refine (new_any _ 2 (by omega) (by omega)).mono ?_; rintro e w1 ⟨p, g, rfl, hb1, hp, hg, hB1⟩
  go_wp2_with fail
  go_at_call 7; refine (put_room _ p g 2 0 [] hB1 (letN 1) (by simp)).mono ?_; rintro e w2 ⟨rfl, hU2, hB2⟩
  go_wp2_with fail
  go_at_call 7; refine (put_room _ p g 2 0 _ hB2 (letN 2) (by simp)).mono ?_; rintro e w3 ⟨rfl, hU3, hB3⟩
  go_wp2_with fail
  go_at_call 7; refine (put_full _ p g 2 0 _ hB3 (letN 3) (letN 1) (by simp) (by simp)).mono ?_; rintro e w4 ⟨rfl, hU4, hB4⟩
  have hW4 := Lib.hid (((hU2.trans hU3).trans hU4).toBelow hb1 hb1.size (by simp; omega))
  clear hU2 hU3 hU4 hB1 hB2 hB3 hb1
  go_wp2_with (first
    | (refine wpList_store_mid rfl 29 _ _ rfl w4.heap.size 0 (letN 1).cells.toArray rfl rfl (fresh_there w4 (letN 1)) (let_size' _) (let_one' _) ?_; show wpList _ _ _ _ _ (freshW w4 (letN 1)); have hx5 := fresh_range w4 (letN 1); have hb5 := fresh_below w4 (letN 1); have hB5 := hB4.below hb5; generalize freshW w4 (letN 1) = W5 at hx5 hb5 hB5 ⊢; have c5 := range_id hx5)
    | (go_at_call 13; refine (list_any _ p g 2 _ _ hB5 3 9).mono ?_; rintro e w6 ⟨v6, rfl, hb6, hO6⟩; obtain ⟨a6, cap6, rfl⟩ := hO6.form)
    | (go_at_call 12; refine (all_any _ p g 2 _ _ (hB5.below hb6)).mono ?_; rintro e w7 ⟨v7, rfl, hb7, hO7⟩; obtain ⟨a7, cap7, rfl⟩ := hO7.form))
  go_ret
  exact ⟨rfl, bthen' (bthen' (bthen' hW4.out hb5) hb6) hb7⟩

end Go.Proofs.Ytchkbbkcflmcmaa
