/- quant.Of and the document's answer. -/
import Derived.Test.YteifjlhkfmoljaaQuantWalks2
set_option linter.unusedVariables false
namespace Go.Proofs.Yteifjlhkfmoljaa
open Go.RowKit Go.Shelf
open HistLaw


set_option maxRecDepth 100000 in
set_option maxHeartbeats 400000 in
theorem of_yes (h : List Int) (hl : h.length = 16) (p : Int) (hp : plcOk h p = true) (w : World) :
    Calls Try.prog 22 #[.agg (hcells h), .int .i64 p] w fun e w' => e = .returned (.tuple #[.int .u64 (highv (plcB h p)), .bool true]) ∧ Below w.heap.size w w' := by
  have hb := highv_bd (plcB h p)
  have hk := (plcB_spec hl (plcOk_iff.1 hp).1 (plcOk_iff.1 hp).2.2.2).1
  obtain ⟨hb0, hb1⟩ := hb
  have HP := Lib.hid hp
  clear hp
  go_enter Try.func22, Try.ntmps22
  go_wp2_with (first | (refine wl_load_row rfl 49 _ rfl w.heap.size rfl 49 (hcells h) (0, 0) _ (by first | assumption | exact heap_alloc_new w _) histU rfl (histRow hl) ?_) | (go_at_call 40; refine (place_yes h hl p HP.out _).mono ?_; rintro e w1 ⟨rfl, hbw1⟩; have hbel := bthen_alloc (Below.refl w.heap.size _) hbw1; clear hbw1) | (go_at_call 41; refine (high_any _ _ (by omega) (by omega)).mono ?_; rintro e w2 ⟨rfl, rfl⟩))
  go_ret2
  exact ⟨rfl, hbel⟩

set_option maxRecDepth 100000 in
set_option maxHeartbeats 400000 in
theorem refOf_yes (h : List Int) (hl : h.length = 16) (p : Int) (hp : plcOk h p = true) (w : World) :
    Calls Try.prog 25 #[.agg (hcells h), .int .i64 p] w fun e w' => e = .returned (.tuple #[.int .u64 (highv (plcB h p)), .bool true]) ∧ Below w.heap.size w w' := by
  have hb := highv_bd (plcB h p)
  have hk := (plcB_spec hl (plcOk_iff.1 hp).1 (plcOk_iff.1 hp).2.2.2).1
  obtain ⟨hb0, hb1⟩ := hb
  have HP := Lib.hid hp
  clear hp
  go_enter Try.func25, Try.ntmps25
  go_wp2_with (first | (refine wl_load_row rfl 49 _ rfl w.heap.size rfl 49 (hcells h) (0, 0) _ (by first | assumption | exact heap_alloc_new w _) histU rfl (histRow hl) ?_) | (go_at_call 43; refine (refPlace_yes h hl p HP.out _).mono ?_; rintro e w1 ⟨rfl, hbw1⟩; have hbel := bthen_alloc (Below.refl w.heap.size _) hbw1; clear hbw1) | (go_at_call 44; refine (refHigh_any _ _ (by omega) (by omega)).mono ?_; rintro e w2 ⟨rfl, rfl⟩))
  go_ret2
  exact ⟨rfl, hbel⟩

set_option maxRecDepth 100000 in
set_option maxHeartbeats 400000 in
theorem of_no (h : List Int) (hl : h.length = 16) (p : Int) (hp : plcOk h p = false) (w : World) :
    Calls Try.prog 22 #[.agg (hcells h), .int .i64 p] w fun e w' => e = .returned (.tuple #[.int .u64 0, .bool false]) ∧ Below w.heap.size w w' := by
  have HP := Lib.hid hp
  clear hp
  go_enter Try.func22, Try.ntmps22
  go_wp2_with (first | (refine wl_load_row rfl 49 _ rfl w.heap.size rfl 49 (hcells h) (0, 0) _ (by first | assumption | exact heap_alloc_new w _) histU rfl (histRow hl) ?_) | (go_at_call 40; refine (place_no h hl p HP.out _).mono ?_; rintro e w1 ⟨rfl, hbw1⟩; have hbel := bthen_alloc (Below.refl w.heap.size _) hbw1; clear hbw1) | (go_at_call 41; refine (high_any _ _ (by omega) (by omega)).mono ?_; rintro e w2 ⟨rfl, rfl⟩))
  go_ret2
  exact ⟨rfl, hbel⟩

set_option maxRecDepth 100000 in
set_option maxHeartbeats 400000 in
theorem refOf_no (h : List Int) (hl : h.length = 16) (p : Int) (hp : plcOk h p = false) (w : World) :
    Calls Try.prog 25 #[.agg (hcells h), .int .i64 p] w fun e w' => e = .returned (.tuple #[.int .u64 0, .bool false]) ∧ Below w.heap.size w w' := by
  have HP := Lib.hid hp
  clear hp
  go_enter Try.func25, Try.ntmps25
  go_wp2_with (first | (refine wl_load_row rfl 49 _ rfl w.heap.size rfl 49 (hcells h) (0, 0) _ (by first | assumption | exact heap_alloc_new w _) histU rfl (histRow hl) ?_) | (go_at_call 43; refine (refPlace_no h hl p HP.out _).mono ?_; rintro e w1 ⟨rfl, hbw1⟩; have hbel := bthen_alloc (Below.refl w.heap.size _) hbw1; clear hbw1) | (go_at_call 44; refine (refHigh_any _ _ (by omega) (by omega)).mono ?_; rintro e w2 ⟨rfl, rfl⟩))
  go_ret2
  exact ⟨rfl, hbel⟩

end Go.Proofs.Yteifjlhkfmoljaa
