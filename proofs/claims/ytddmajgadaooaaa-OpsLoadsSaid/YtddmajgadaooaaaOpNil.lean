/- OpsNil: nothing of none. -/
import Derived.Test.YtddmajgadaooaaaOpLive
set_option linter.unusedVariables false
set_option linter.unusedSimpArgs false
namespace Go.Proofs.Ytddmajgadaooaaa
open Go.RowKit

def IsBool (w : World) (e : Ending) (w' : World) : Prop := ∃ b, e = .returned (.bool b) ∧ Below w.heap.size w w'
set_option maxRecDepth 100000 in
set_option maxHeartbeats 1000000 in
theorem long_any (w : World) (o : OpV) : Calls Try.prog 9 #[.agg o.cells.toArray] w (IsBool w) := by
  have hb1 : Below w.heap.size w (w.alloc (.cells o.cells.toArray 30)) := (Below.refl _ _).alloc (Nat.le_refl _) _
  have hn1 : (w.alloc (.cells o.cells.toArray 30)).heap[w.heap.size]? = some (.cells o.cells.toArray 30 (0, 0)) := heap_alloc_new _ _
  obtain ⟨W1, hW1⟩ : ∃ W1, W1 = w.alloc (.cells o.cells.toArray 30) := ⟨_, rfl⟩
  rw [← hW1] at hb1 hn1
  have k3 : W1.cell? ⟨w.heap.size, 3, none⟩ = some (.string o.key) := by simpa using (op_range hn1) 3 _ rfl
  have k4 : W1.cell? ⟨w.heap.size, 4, none⟩ = some (.string o.cmd) := by simpa using (op_range hn1) 4 _ rfl
  have k5 : W1.cell? ⟨w.heap.size, 5, none⟩ = some (.string o.need) := by simpa using (op_range hn1) 5 _ rfl
  have HB1 := Lib.hid hb1
  clear hn1
  go_enter Try.func9, Try.ntmps9
  go_upto_region 1 with fail
  show Code.wp _ _ _ _ (w.alloc (.cells o.cells.toArray 30))
  rw [← hW1]
  clear hW1 hb1
  go_wp2_with fail
  go_ret
  exact ⟨_, rfl, HB1.out⟩
set_option maxRecDepth 100000 in
set_option maxHeartbeats 4000000 in
theorem opsNil_any (w : World) (o : OpV) : Calls Try.prog 5 #[.agg o.cells.toArray] w fun e w' => e = .returned (.bool true) ∧ Below w.heap.size w w' := by
  have hb1 : Below w.heap.size w (w.alloc (.cells o.cells.toArray 30)) := (Below.refl _ _).alloc (Nat.le_refl _) _
  have hn1 : (w.alloc (.cells o.cells.toArray 30)).heap[w.heap.size]? = some (.cells o.cells.toArray 30 (0, 0)) := heap_alloc_new _ _
  obtain ⟨W1, hW1⟩ : ∃ W1, W1 = w.alloc (.cells o.cells.toArray 30) := ⟨_, rfl⟩
  rw [← hW1] at hb1 hn1
  have HN1 := Lib.hid hn1
  have HB1 := Lib.hid hb1
  have KL := Lib.hid (long_any W1 o)
  clear hn1
  go_enter Try.func5, Try.ntmps5
  go_upto_region 2 with fail
  show Code.wp _ _ _ _ (w.alloc (.cells o.cells.toArray 30))
  rw [← hW1]
  clear hW1 hb1
  go_upto_if 9 with (first
    | (refine wpList_load_mid rfl 30 _ rfl w.heap.size 0 rfl o.cells _ (op_range HN1.out) Try.underlying30 rfl (opRow o) ?_)
    | (go_at_call 9; refine KL.out.mono ?_; rintro e W2 ⟨b, rfl, hb2⟩))
  have KV := Lib.hid (page_any W2)
  have HN2 := Lib.hid (kept hb2 HN1.out)
  have HB2 := Lib.hid (bthen' HB1.out hb2)
  clear hb2 KL
  cases b with
  | true =>
    go_wp2_with (go_at_call 8; refine KV.out.mono ?_; rintro e W3 ⟨rfl, hb3⟩)
    go_ret
    exact ⟨rfl, bthen' HB2.out hb3⟩
  | false =>
    have k0 : W2.cell? ⟨w.heap.size, 0, none⟩ = some (.int .i64 o.id) := by simpa using (op_range HN2.out) 0 _ rfl
    have KG := Lib.hid (get_nil W2 o.id)
    go_upto_region 5 with (first
      | (go_at_call 14; refine KG.out.mono ?_; rintro e W3 ⟨rfl, hb3⟩)
      | (refine wpList_store_row rfl 30 _ _ rfl W3.heap.size zeroOp.cells.toArray rfl rfl 30 zeroOp.cells.toArray (heap_alloc_new _ _) (opRow' zeroOp) rfl (opOne zeroOp) ?_))
    show Code.wp _ _ _ _ ((W3.alloc (.cells zeroOp.cells.toArray 30)).setRow W3.heap.size zeroOp.cells.toArray)
    have hb4 : Below W3.heap.size W3 ((W3.alloc (.cells zeroOp.cells.toArray 30)).setRow W3.heap.size zeroOp.cells.toArray) := below_row ((Below.refl _ _).alloc (Nat.le_refl _) _) (Nat.le_refl _) _
    have HN4 := Lib.hid (kept (bthen' hb3 hb4) HN2.out)
    generalize (W3.alloc (.cells zeroOp.cells.toArray 30)).setRow W3.heap.size zeroOp.cells.toArray = W4 at hb4 HN4 ⊢
    have HB4 := Lib.hid (bthen' HB2.out (bthen' hb3 hb4))
    clear hb4 hb3 KG KV k0
    have k1 : W4.cell? ⟨w.heap.size, 1, none⟩ = some (.int .i64 o.ten) := by simpa using (op_range HN4.out) 1 _ rfl
    have ra : W4.rangeAt w.heap.size 3 o.acn.cells := by simpa using op_acn (op_range HN4.out)
    have KF := Lib.hid (flight_nil W4 o.ten o.acn)
    go_upto_region 6 with (first
      | (refine wpList_load_mid rfl 27 _ rfl w.heap.size 3 rfl o.acn.cells _ ra Try.underlying27 rfl (acnRow o.acn) ?_)
      | (go_at_call 22; refine KF.out.mono ?_; rintro e W5 ⟨rfl, hb5⟩))
    have HN5 := Lib.hid (kept hb5 HN4.out)
    have HB5 := Lib.hid (bthen' HB4.out hb5)
    clear hb5 KF k1 ra
    have KA := Lib.hid (add_nil W5 o)
    go_wp2_with (first
      | (refine wpList_load_mid rfl 30 _ rfl w.heap.size 0 rfl o.cells _ (op_range HN5.out) Try.underlying30 rfl (opRow o) ?_)
      | (refine wl_load_mid rfl 30 _ rfl w.heap.size 0 rfl o.cells _ (op_range HN6.out) Try.underlying30 rfl (opRow o) ?_)
      | (go_at_call 13; refine KA.out.mono ?_; rintro e W6 ⟨rfl, hb6⟩; have HN6 := Lib.hid (kept hb6 HN5.out); have KS := Lib.hid (set_nil W6 o))
      | (go_at_call 15; refine KS.out.mono ?_; rintro e W7 ⟨rfl, hb7⟩)
      | (go_at_call 18; refine (num_any _ _).mono ?_; rintro e w' ⟨rfl, rfl⟩)
      | (go_at_call 11; refine (live_nil _).mono ?_; rintro e w' ⟨rfl, rfl⟩)
      | (go_at_call 10; refine (ended_nil _).mono ?_; rintro e w' ⟨rfl, rfl⟩)
      | (go_at_call 12; refine (next_nil _).mono ?_; rintro e w' ⟨rfl, rfl⟩)
      | (go_at_call 8; refine (page_any _).mono ?_; rintro e W8 ⟨rfl, hb8⟩))
    go_ret
    exact ⟨rfl, bthen' HB5.out (bthen' hb6 (bthen' hb7 hb8))⟩
end Go.Proofs.Ytddmajgadaooaaa
