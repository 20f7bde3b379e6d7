/- quant.Of and the document's answer; the walks of the statements. -/
import Derived.Test.YtkhacnifefljmaaQuantWalks2
set_option linter.unusedVariables false
namespace Go.Proofs.Ytkhacnifefljmaa
open Go.RowKit Go.Shelf
open HistLaw


set_option maxRecDepth 100000 in
set_option maxHeartbeats 400000 in
theorem of_yes (h : List Int) (hl : h.length = 16) (p : Int) (hp : plcOk h p = true) (w : World) :
    Calls Try.prog 22 #[.agg (hcells h), .int .i64 p] w fun e w' => e = .returned (.tuple #[.int .u64 (highv (plcB h p)), .bool true]) ∧ Below w.heap.size w w' := by
  have hb := highv_bd (plcB h p)
  have hk := (plcB_spec hl (plcOk_iff.1 hp).1 (plcOk_iff.1 hp).2.2.2).1
  obtain ⟨hb0, hb1⟩ := hb
  have HP := Lib.hid hp
  clear hp
  go_enter Try.func22, Try.ntmps22
  go_wp2_with (first | (refine wl_load_row rfl 28 _ rfl w.heap.size rfl 28 (hcells h) (0, 0) _ (by first | assumption | exact heap_alloc_new w _) histU rfl (histRow hl) ?_) | (go_at_call 20; refine (place_yes h hl p HP.out _).mono ?_; rintro e w1 ⟨rfl, hbw1⟩; have hbel := bthen_alloc (Below.refl w.heap.size _) hbw1; clear hbw1) | (go_at_call 11; refine (high_any _ _ (by omega) (by omega)).mono ?_; rintro e w2 ⟨rfl, rfl⟩))
  go_ret2
  exact ⟨rfl, hbel⟩

set_option maxRecDepth 100000 in
set_option maxHeartbeats 400000 in
theorem refOf_yes (h : List Int) (hl : h.length = 16) (p : Int) (hp : plcOk h p = true) (w : World) :
    Calls Try.prog 23 #[.agg (hcells h), .int .i64 p] w fun e w' => e = .returned (.tuple #[.int .u64 (highv (plcB h p)), .bool true]) ∧ Below w.heap.size w w' := by
  have hb := highv_bd (plcB h p)
  have hk := (plcB_spec hl (plcOk_iff.1 hp).1 (plcOk_iff.1 hp).2.2.2).1
  obtain ⟨hb0, hb1⟩ := hb
  have HP := Lib.hid hp
  clear hp
  go_enter Try.func23, Try.ntmps23
  go_wp2_with (first | (refine wl_load_row rfl 28 _ rfl w.heap.size rfl 28 (hcells h) (0, 0) _ (by first | assumption | exact heap_alloc_new w _) histU rfl (histRow hl) ?_) | (go_at_call 21; refine (refPlace_yes h hl p HP.out _).mono ?_; rintro e w1 ⟨rfl, hbw1⟩; have hbel := bthen_alloc (Below.refl w.heap.size _) hbw1; clear hbw1) | (go_at_call 12; refine (refHigh_any _ _ (by omega) (by omega)).mono ?_; rintro e w2 ⟨rfl, rfl⟩))
  go_ret2
  exact ⟨rfl, hbel⟩

set_option maxRecDepth 100000 in
set_option maxHeartbeats 400000 in
theorem of_no (h : List Int) (hl : h.length = 16) (p : Int) (hp : plcOk h p = false) (w : World) :
    Calls Try.prog 22 #[.agg (hcells h), .int .i64 p] w fun e w' => e = .returned (.tuple #[.int .u64 0, .bool false]) ∧ Below w.heap.size w w' := by
  have HP := Lib.hid hp
  clear hp
  go_enter Try.func22, Try.ntmps22
  go_wp2_with (first | (refine wl_load_row rfl 28 _ rfl w.heap.size rfl 28 (hcells h) (0, 0) _ (by first | assumption | exact heap_alloc_new w _) histU rfl (histRow hl) ?_) | (go_at_call 20; refine (place_no h hl p HP.out _).mono ?_; rintro e w1 ⟨rfl, hbw1⟩; have hbel := bthen_alloc (Below.refl w.heap.size _) hbw1; clear hbw1) | (go_at_call 11; refine (high_any _ _ (by omega) (by omega)).mono ?_; rintro e w2 ⟨rfl, rfl⟩))
  go_ret2
  exact ⟨rfl, hbel⟩

set_option maxRecDepth 100000 in
set_option maxHeartbeats 400000 in
theorem refOf_no (h : List Int) (hl : h.length = 16) (p : Int) (hp : plcOk h p = false) (w : World) :
    Calls Try.prog 23 #[.agg (hcells h), .int .i64 p] w fun e w' => e = .returned (.tuple #[.int .u64 0, .bool false]) ∧ Below w.heap.size w w' := by
  have HP := Lib.hid hp
  clear hp
  go_enter Try.func23, Try.ntmps23
  go_wp2_with (first | (refine wl_load_row rfl 28 _ rfl w.heap.size rfl 28 (hcells h) (0, 0) _ (by first | assumption | exact heap_alloc_new w _) histU rfl (histRow hl) ?_) | (go_at_call 21; refine (refPlace_no h hl p HP.out _).mono ?_; rintro e w1 ⟨rfl, hbw1⟩; have hbel := bthen_alloc (Below.refl w.heap.size _) hbw1; clear hbw1) | (go_at_call 12; refine (refHigh_any _ _ (by omega) (by omega)).mono ?_; rintro e w2 ⟨rfl, rfl⟩))
  go_ret2
  exact ⟨rfl, hbel⟩

/-- The page's example: three of bucket 1, one of bucket 4. -/
def exH : List Int := [0, 3, 0, 0, 1, 0, 0, 0, 0, 0, 0, 0, 0, 0, 0, 0]
theorem ex75 : plcOk exH 75 = true ∧ plcB exH 75 = 1 := by decide +kernel
theorem ex76 : plcOk exH 76 = true ∧ plcB exH 76 = 4 := by decide +kernel
theorem exCells : hcells exH = #[.int .i64 0, .int .i64 3, .int .i64 0, .int .i64 0, .int .i64 1, .int .i64 0, .int .i64 0, .int .i64 0, .int .i64 0, .int .i64 0, .int .i64 0, .int .i64 0, .int .i64 0, .int .i64 0, .int .i64 0, .int .i64 0] := rfl

theorem exv75 : (highv (plcB exH 75) == 1) = true := by decide +kernel
theorem exv76 : (highv (plcB exH 76) == 15) = true := by decide +kernel

set_option maxRecDepth 100000 in
set_option maxHeartbeats 1000000 in
theorem live11_any (w : World) : Calls Try.prog 24 #[] w fun e w' => e = .returned (.bool true) ∧ Below w.heap.size w w' := by
  have e1 := exv75
  have e2 := exv76
  have h75 := Lib.hid ex75.1
  have h76 := Lib.hid ex76.1
  go_enter Try.func24, Try.ntmps24
  go_wp2_with fail
  rw [← exCells]
  refine (of_yes exH rfl 75 h75.out _).mono ?_
  rintro e w1 ⟨rfl, hb1⟩
  have hA := new_alloc hb1
  have hbel := bthen_alloc (Below.refl w.heap.size _) hb1
  clear hb1
  go_wp2_with (first | (refine wl_load_row rfl 28 _ rfl w.heap.size rfl 28 (hcells exH) (0, 0) _ (by assumption) histU rfl (histRow rfl) ?_) | (go_at_call 22; refine (of_yes exH rfl 76 h76.out _).mono ?_; rintro e w2 ⟨rfl, hb2⟩; have hbel2 := bthen hbel hb2; clear hb2))
  go_ret
  exact ⟨rfl, hbel2⟩
end Go.Proofs.Ytkhacnifefljmaa
