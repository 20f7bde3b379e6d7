/- The walks of the statements on percentages. -/
import Derived.Test.YtkhacnifefljmaaQuantLaws
import Derived.Test.YtkhacnifefljmaaHistOrder
set_option linter.unusedVariables false
namespace Go.Proofs.Ytkhacnifefljmaa
open Go.RowKit Go.Shelf
open HistLaw

set_option maxRecDepth 100000 in
set_option maxHeartbeats 1000000 in
theorem quantTells_yes (h : List Int) (hl : h.length = 16) (p : Int) (hp : plcOk h p = true) (w : World) :
    Calls Try.prog 6 #[.agg (hcells h), .int .i64 p] w fun e w' => e = .returned (.bool true) ∧ Below w.heap.size w w' := by
  have hb := highv_bd (plcB h p)
  obtain ⟨hb0, hb1⟩ := hb
  have HP := Lib.hid hp
  clear hp
  go_enter Try.func6, Try.ntmps6
  go_wp2_with (first | (refine wl_load_row rfl 28 _ rfl w.heap.size rfl 28 (hcells h) (0, 0) _ (by first | assumption | exact heap_alloc_new w _) histU rfl (histRow hl) ?_) | (go_at_call 20; refine (place_yes h hl p HP.out _).mono ?_; rintro e w1 ⟨rfl, hb⟩; have hA1 := new_alloc hb; have hbel1 := bthen_alloc (Below.refl w.heap.size _) hb; clear hb) | (go_at_call 21; refine (refPlace_yes h hl p HP.out _).mono ?_; rintro e w2 ⟨rfl, hb⟩; have hA2 := kept hb hA1; have hbel2 := bthen hbel1 hb; clear hb hA1 hbel1) | (go_at_call 22; refine (of_yes h hl p HP.out _).mono ?_; rintro e w3 ⟨rfl, hb⟩; have hA3 := kept hb hA2; have hbel3 := bthen hbel2 hb; clear hb hA2 hbel2) | (go_at_call 23; refine (refOf_yes h hl p HP.out _).mono ?_; rintro e w4 ⟨rfl, hb⟩; have hA4 := kept hb hA3; have hbel4 := bthen hbel3 hb; clear hb hA3 hbel3) | (go_at_call 24; refine (live11_any _).mono ?_; rintro e w5 ⟨rfl, hb⟩; have hbel5 := bthen hbel4 hb; clear hb))
  go_ret
  exact ⟨rfl, hbel5⟩

set_option maxRecDepth 100000 in
set_option maxHeartbeats 1000000 in
theorem quantTells_no (h : List Int) (hl : h.length = 16) (p : Int) (hp : plcOk h p = false) (w : World) :
    Calls Try.prog 6 #[.agg (hcells h), .int .i64 p] w fun e w' => e = .returned (.bool true) ∧ Below w.heap.size w w' := by
  have HP := Lib.hid hp
  clear hp
  have hmx : max (-1 : Int) 0 = 0 := by decide
  go_enter Try.func6, Try.ntmps6
  go_wp2_with (first | (refine wl_load_row rfl 28 _ rfl w.heap.size rfl 28 (hcells h) (0, 0) _ (by first | assumption | exact heap_alloc_new w _) histU rfl (histRow hl) ?_) | (go_at_call 20; refine (place_no h hl p HP.out _).mono ?_; rintro e w1 ⟨rfl, hb⟩; have hA1 := new_alloc hb; have hbel1 := bthen_alloc (Below.refl w.heap.size _) hb; clear hb) | (go_at_call 21; refine (refPlace_no h hl p HP.out _).mono ?_; rintro e w2 ⟨rfl, hb⟩; have hA2 := kept hb hA1; have hbel2 := bthen hbel1 hb; clear hb hA1 hbel1) | (go_at_call 22; refine (of_no h hl p HP.out _).mono ?_; rintro e w3 ⟨rfl, hb⟩; have hA3 := kept hb hA2; have hbel3 := bthen hbel2 hb; clear hb hA2 hbel2) | (go_at_call 23; refine (refOf_no h hl p HP.out _).mono ?_; rintro e w4 ⟨rfl, hb⟩; have hA4 := kept hb hA3; have hbel4 := bthen hbel3 hb; clear hb hA3 hbel3) | (go_at_call 24; refine (live11_any _).mono ?_; rintro e w5 ⟨rfl, hb⟩; have hbel5 := bthen hbel4 hb; clear hb))
  go_ret
  exact ⟨rfl, hbel5⟩

set_option maxRecDepth 100000 in
set_option maxHeartbeats 1000000 in
theorem quantOne_walk (v : Int) (p : Int) (w : World) (hv0 : 0 ≤ v) (hv1 : v ≤ 18446744073709551615) :
    Calls Try.prog 8 #[.int .u64 v, .int .i64 p] w fun e w' => e = .returned (.bool true) ∧ Below w.heap.size w w' := by
  have hl : (addH zeros v.toNat).length = 16 := addH_length _ _ rfl
  have hk := buck_le v.toNat
  by_cases h1 : p < 1
  · have HP := Lib.hid (show plcOk (addH zeros v.toNat) p = false by simp [plcOk]; omega)
    go_enter Try.func8, Try.ntmps8
    go_wp2_with fail
    rw [← hcells_zeros]
    go_wp2_with (first | (go_at_call 14; refine (add_at zeros rfl _ _ hv0 hv1).mono ?_; rintro e w1 ⟨rfl, hb1⟩) | (go_at_call 22; refine (of_no _ hl p HP.out _).mono ?_; rintro e w2 ⟨rfl, hb2⟩; have hbel := bthen hb1 hb2; clear hb1 hb2) | (go_at_call 24; refine (live11_any _).mono ?_; rintro e w5 ⟨rfl, hb⟩; have hbel5 := bthen hbel hb; clear hb))
    go_ret
    exact ⟨rfl, hbel5⟩
  by_cases h2 : 100 < p
  · have HP := Lib.hid (show plcOk (addH zeros v.toNat) p = false by simp [plcOk]; omega)
    go_enter Try.func8, Try.ntmps8
    go_wp2_with fail
    rw [← hcells_zeros]
    go_wp2_with (first | (go_at_call 14; refine (add_at zeros rfl _ _ hv0 hv1).mono ?_; rintro e w1 ⟨rfl, hb1⟩) | (go_at_call 22; refine (of_no _ hl p HP.out _).mono ?_; rintro e w2 ⟨rfl, hb2⟩; have hbel := bthen hb1 hb2; clear hb1 hb2) | (go_at_call 24; refine (live11_any _).mono ?_; rintro e w5 ⟨rfl, hb⟩; have hbel5 := bthen hbel hb; clear hb))
    go_ret
    exact ⟨rfl, hbel5⟩
  · have hpl := one_place v.toNat p (by omega) (by omega)
    rw [nought_zeros] at hpl
    have HP := Lib.hid hpl.1
    have hE := hpl.2
    clear hpl
    have hof := fun w => of_yes _ hl p HP.out w
    rw [hE] at hof
    have HOF := Lib.hid hof
    clear hof hE
    have hb := highv_bd (buck v.toNat)
    obtain ⟨hb0, hb1'⟩ := hb
    go_enter Try.func8, Try.ntmps8
    go_wp2_with fail
    rw [← hcells_zeros]
    go_wp2_with (first | (go_at_call 14; refine (add_at zeros rfl _ _ hv0 hv1).mono ?_; rintro e w1 ⟨rfl, hb1⟩) | (go_at_call 22; refine (HOF.out _).mono ?_; rintro e w2 ⟨rfl, hb2⟩; have hbel := bthen hb1 hb2; clear hb1 hb2) | (go_at_call 9; refine (bucket_at _ _ hv0 hv1).mono ?_; rintro e w3 ⟨rfl, rfl⟩) | (go_at_call 11; refine (high_any _ _ (by omega) (by omega)).mono ?_; rintro e w3 ⟨rfl, rfl⟩) | (go_at_call 24; refine (live11_any _).mono ?_; rintro e w5 ⟨rfl, hb⟩; have hbel5 := bthen hbel hb; clear hb))
    go_ret
    exact ⟨rfl, hbel5⟩
end Go.Proofs.Ytkhacnifefljmaa
