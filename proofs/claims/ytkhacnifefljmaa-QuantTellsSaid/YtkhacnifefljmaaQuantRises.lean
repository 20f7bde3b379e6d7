/- The walk of the statement that a greater percentage never tells less. -/
import Derived.Test.YtkhacnifefljmaaQuantLaws2
import Derived.Test.YtkhacnifefljmaaHistOpen
set_option linter.unusedVariables false
namespace Go.Proofs.Ytkhacnifefljmaa
open Go.RowKit Go.Shelf
open HistLaw

theorem take_step {h : List Int} (hl : h.length = 16) (hr : rightB h = true) (k : Nat) (hk : k < 16) : tw (h.take k) + nth h k = tw (h.take (k + 1)) := by
  rw [right_take hl hr, right_take hl hr, take_snoc h k (by omega), sm_append]
  simp [sm]

theorem high_le_iff {i b : Nat} (hi : i < 16) (hb : b < 16) : (highv i ≤ highv b) ↔ i ≤ b := by
  constructor
  · intro h
    rcases Nat.lt_or_ge b i with h1 | h1
    · have := highv_strict (a := (b : Int)) (b := (i : Int)) (by omega) (by omega) (by omega)
      omega
    · exact h1
  · intro h
    exact highv_mono (by omega) (by omega) (by omega)

set_option maxRecDepth 100000 in
set_option maxHeartbeats 1000000 in
theorem quantRises_nn (h : List Int) (hl : h.length = 16) (a b : Int) (ha : plcOk h a = false) (hb : plcOk h b = false) (w : World) :
    Calls Try.prog 7 #[.agg (hcells h), .int .i64 a, .int .i64 b] w fun e w' => e = .returned (.bool true) ∧ Below w.heap.size w w' := by
  have HPa := Lib.hid ha
  have HPb := Lib.hid hb
  clear ha hb
  go_enter Try.func7, Try.ntmps7
  go_wp2_with (first | (refine wl_load_row rfl 28 _ rfl w.heap.size rfl 28 (hcells h) (0, 0) _ (by first | assumption | exact heap_alloc_new w _) histU rfl (histRow hl) ?_))
  refine (of_no h hl a HPa.out _).mono ?_
  rintro e w1 ⟨rfl, hb⟩
  have hA1 := new_alloc hb
  have hbel1 := bthen_alloc (Below.refl w.heap.size _) hb
  clear hb
  go_wp2_with (first | (refine wl_load_row rfl 28 _ rfl w.heap.size rfl 28 (hcells h) (0, 0) _ (by first | assumption | exact heap_alloc_new w _) histU rfl (histRow hl) ?_))
  refine (of_no h hl b HPb.out _).mono ?_
  rintro e w2 ⟨rfl, hb⟩
  have hA2 := kept hb hA1
  have hbel2 := bthen hbel1 hb
  clear hb hA1 hbel1
  go_wp2_with (first | (go_at_call 24; refine (live11_any _).mono ?_; rintro e w5 ⟨rfl, hb⟩; have hbel5 := bthen hbel2 hb; clear hb))
  go_ret
  exact ⟨rfl, hbel5⟩

set_option maxRecDepth 100000 in
set_option maxHeartbeats 1000000 in
theorem quantRises_ny (h : List Int) (hl : h.length = 16) (a b : Int) (ha : plcOk h a = false) (hb : plcOk h b = true) (w : World) :
    Calls Try.prog 7 #[.agg (hcells h), .int .i64 a, .int .i64 b] w fun e w' => e = .returned (.bool true) ∧ Below w.heap.size w w' := by
  have HPa := Lib.hid ha
  have HPb := Lib.hid hb
  clear ha hb
  go_enter Try.func7, Try.ntmps7
  go_wp2_with (first | (refine wl_load_row rfl 28 _ rfl w.heap.size rfl 28 (hcells h) (0, 0) _ (by first | assumption | exact heap_alloc_new w _) histU rfl (histRow hl) ?_))
  refine (of_no h hl a HPa.out _).mono ?_
  rintro e w1 ⟨rfl, hb⟩
  have hA1 := new_alloc hb
  have hbel1 := bthen_alloc (Below.refl w.heap.size _) hb
  clear hb
  go_wp2_with (first | (refine wl_load_row rfl 28 _ rfl w.heap.size rfl 28 (hcells h) (0, 0) _ (by first | assumption | exact heap_alloc_new w _) histU rfl (histRow hl) ?_))
  refine (of_yes h hl b HPb.out _).mono ?_
  rintro e w2 ⟨rfl, hb⟩
  have hA2 := kept hb hA1
  have hbel2 := bthen hbel1 hb
  clear hb hA1 hbel1
  go_wp2_with (first | (go_at_call 24; refine (live11_any _).mono ?_; rintro e w5 ⟨rfl, hb⟩; have hbel5 := bthen hbel2 hb; clear hb))
  go_ret
  exact ⟨rfl, hbel5⟩

set_option maxRecDepth 100000 in
set_option maxHeartbeats 1000000 in
theorem quantRises_yn (h : List Int) (hl : h.length = 16) (a b : Int) (ha : plcOk h a = true) (hb : plcOk h b = false) (w : World) :
    Calls Try.prog 7 #[.agg (hcells h), .int .i64 a, .int .i64 b] w fun e w' => e = .returned (.bool true) ∧ Below w.heap.size w w' := by
  have HPa := Lib.hid ha
  have HPb := Lib.hid hb
  clear ha hb
  go_enter Try.func7, Try.ntmps7
  go_wp2_with (first | (refine wl_load_row rfl 28 _ rfl w.heap.size rfl 28 (hcells h) (0, 0) _ (by first | assumption | exact heap_alloc_new w _) histU rfl (histRow hl) ?_))
  refine (of_yes h hl a HPa.out _).mono ?_
  rintro e w1 ⟨rfl, hb⟩
  have hA1 := new_alloc hb
  have hbel1 := bthen_alloc (Below.refl w.heap.size _) hb
  clear hb
  go_wp2_with (first | (refine wl_load_row rfl 28 _ rfl w.heap.size rfl 28 (hcells h) (0, 0) _ (by first | assumption | exact heap_alloc_new w _) histU rfl (histRow hl) ?_))
  refine (of_no h hl b HPb.out _).mono ?_
  rintro e w2 ⟨rfl, hb⟩
  have hA2 := kept hb hA1
  have hbel2 := bthen hbel1 hb
  clear hb hA1 hbel1
  go_wp2_with (first | (go_at_call 24; refine (live11_any _).mono ?_; rintro e w5 ⟨rfl, hb⟩; have hbel5 := bthen hbel2 hb; clear hb))
  go_ret
  exact ⟨rfl, hbel5⟩

set_option maxRecDepth 100000 in
set_option maxHeartbeats 1000000 in
theorem quantRises_yy (h : List Int) (hl : h.length = 16) (a b : Int) (ha : plcOk h a = true) (hb : plcOk h b = true) (w : World) :
    Calls Try.prog 7 #[.agg (hcells h), .int .i64 a, .int .i64 b] w fun e w' => e = .returned (.bool true) ∧ Below w.heap.size w w' := by
  by_cases hab : b < a
  · have HPa := Lib.hid ha
    have HPb := Lib.hid hb
    clear ha hb
    go_enter Try.func7, Try.ntmps7
    go_wp2_with (first | (refine wl_load_row rfl 28 _ rfl w.heap.size rfl 28 (hcells h) (0, 0) _ (by first | assumption | exact heap_alloc_new w _) histU rfl (histRow hl) ?_))
    refine (of_yes h hl a HPa.out _).mono ?_
    rintro e w1 ⟨rfl, hb⟩
    have hA1 := new_alloc hb
    have hbel1 := bthen_alloc (Below.refl w.heap.size _) hb
    clear hb
    go_wp2_with (first | (refine wl_load_row rfl 28 _ rfl w.heap.size rfl 28 (hcells h) (0, 0) _ (by first | assumption | exact heap_alloc_new w _) histU rfl (histRow hl) ?_))
    refine (of_yes h hl b HPb.out _).mono ?_
    rintro e w2 ⟨rfl, hb⟩
    have hA2 := kept hb hA1
    have hbel2 := bthen hbel1 hb
    clear hb hA1 hbel1
    go_wp2_with (first | (go_at_call 24; refine (live11_any _).mono ?_; rintro e w5 ⟨rfl, hb⟩; have hbel5 := bthen hbel2 hb; clear hb))
    go_ret
    exact ⟨rfl, hbel5⟩
  · have hmono := plcB_mono hl ha hb (by omega)
    obtain ⟨hr, -, ha1, ha2⟩ := plcOk_iff.1 ha
    obtain ⟨p1, p2, -⟩ := plcB_spec hl hr ha2
    obtain ⟨q1, -, -⟩ := plcB_spec hl hr (plcOk_iff.1 hb).2.2.2
    have hxy : highv (plcB h a) ≤ highv (plcB h b) := highv_mono (by omega) (by omega) (by omega)
    have hhit : tw h * a ≤ tw (h.take (plcB h a + 1)) * 100 := of_decide_eq_true p2
    obtain ⟨ht0, ht1⟩ := take_bd hl hr (plcB h a + 1)
    obtain ⟨hs0, hs1⟩ := tw_bd64 hl hr
    have hm0 : 0 ≤ tw h * a := Int.mul_nonneg hs0 (by omega)
    have hm1 : tw h * a ≤ 6400 := by have := Int.mul_le_mul_of_nonneg_left ha2 hs0; omega
    have hge : tw h * a ≤ 100 * tw (h.take (plcB h a + 1)) := by omega
    have HPa := Lib.hid ha
    have HPb := Lib.hid hb
    have HMO := Lib.hid hmono
    clear ha hb p2 hhit hmono
    go_enter Try.func7, Try.ntmps7
    go_wp2_with (first | (refine wl_load_row rfl 28 _ rfl w.heap.size rfl 28 (hcells h) (0, 0) _ (by first | assumption | exact heap_alloc_new w _) histU rfl (histRow hl) ?_))
    refine (of_yes h hl a HPa.out _).mono ?_
    rintro e w1 ⟨rfl, hb⟩
    have hA1 := new_alloc hb
    have hbel1 := bthen_alloc (Below.refl w.heap.size _) hb
    clear hb
    go_wp2_with (first | (refine wl_load_row rfl 28 _ rfl w.heap.size rfl 28 (hcells h) (0, 0) _ (by first | assumption | exact heap_alloc_new w _) histU rfl (histRow hl) ?_))
    refine (of_yes h hl b HPb.out _).mono ?_
    rintro e w2 ⟨rfl, hb⟩
    have hA2 := kept hb hA1
    have hbel2 := bthen hbel1 hb
    clear hb hA1 hbel1
    go_wp2
    have hcs := fun k hk => row_cell (k := k) hA2 hk
    go_loop [11, 12] (fun n i => ∃ k : Nat, k ≤ 16 ∧ i = .int .i64 k ∧ n = .int .i64 (tw (h.take (min k (plcB h a + 1))))) (fun _ i => 16 - (intOf i).toNat)
    case atStart => exact ⟨0, by omega, rfl, rfl⟩
    case round =>
      obtain ⟨k, hk, rfl, rfl⟩ := hrel
      by_cases hlt : k < 16
      · have hc := hcs k (by omega)
        clear hcs
        have hb := take_bd hl hr (min k (plcB h a + 1))
        obtain ⟨hb0, hb1⟩ := hb
        by_cases hle : k ≤ plcB h a
        · have hcmp : highv (k : Int) ≤ highv (plcB h a) := (high_le_iff hlt p1).2 hle
          have e1 : min k (plcB h a + 1) = k := by omega
          have e2 : min (k + 1) (plcB h a + 1) = k + 1 := by omega
          have HS := Lib.hid (show tw (h.take k) + nth h k = tw (h.take (min (k + 1) (plcB h a + 1))) by rw [e2]; exact take_step hl hr k hlt)
          rw [e1] at hb0 hb1 ⊢
          have hx : 0 ≤ nth h k ∧ nth h k ≤ 64 := right_all hr _ (nth_mem h k (by omega))
          obtain ⟨hx0, hx1⟩ := hx
          clear e1 e2
          go_wp2_with (go_at_call 11; refine (high_any _ _ (by omega) (by omega)).mono ?_; rintro e w3 ⟨rfl, rfl⟩)
          go_round
          case rel => exact ⟨k + 1, by omega, by go_num, by rw [HS.out]⟩
          case measure => simp [intOf]; omega
        · have hcmp : ¬ highv (k : Int) ≤ highv (plcB h a) := fun h1 => hle ((high_le_iff hlt p1).1 h1)
          have e1 : min k (plcB h a + 1) = plcB h a + 1 := by omega
          have e2 : min (k + 1) (plcB h a + 1) = plcB h a + 1 := by omega
          have E2 := Lib.hid e2
          rw [e1] at hb0 hb1 ⊢
          clear e1 e2
          go_wp2_with (go_at_call 11; refine (high_any _ _ (by omega) (by omega)).mono ?_; rintro e w3 ⟨rfl, rfl⟩)
          go_round
          case rel => exact ⟨k + 1, by omega, by go_num, by rw [E2.out]⟩
          case measure => simp [intOf]; omega
      · obtain rfl : k = 16 := by omega
        have e1 : min 16 (plcB h a + 1) = plcB h a + 1 := by omega
        rw [e1]
        clear hcs e1
        go_wp2_with (first | (refine wl_load_row rfl 28 _ rfl w.heap.size rfl 28 (hcells h) (0, 0) _ (by first | assumption | exact heap_alloc_new w _) histU rfl (histRow hl) ?_) | (go_at_call 18; refine (total_any h hl _).mono ?_; rintro e w4 ⟨rfl, hb⟩; have hbel4 := bthen hbel2 hb; clear hb) | (go_at_call 24; refine (live11_any _).mono ?_; rintro e w5 ⟨rfl, hb⟩; have hbel5 := bthen hbel4 hb; clear hb))
        go_ret
        exact ⟨rfl, hbel5⟩

theorem quantTells_walk (h : List Int) (hl : h.length = 16) (p : Int) (w : World) :
    Calls Try.prog 6 #[.agg (hcells h), .int .i64 p] w fun e w' => e = .returned (.bool true) ∧ Below w.heap.size w w' := by
  cases hp : plcOk h p with
  | true => exact quantTells_yes h hl p hp w
  | false => exact quantTells_no h hl p hp w
theorem quantRises_walk (h : List Int) (hl : h.length = 16) (a b : Int) (w : World) :
    Calls Try.prog 7 #[.agg (hcells h), .int .i64 a, .int .i64 b] w fun e w' => e = .returned (.bool true) ∧ Below w.heap.size w w' := by
  cases ha : plcOk h a with
  | true => cases hb : plcOk h b with
    | true => exact quantRises_yy h hl a b ha hb w
    | false => exact quantRises_yn h hl a b ha hb w
  | false => cases hb : plcOk h b with
    | true => exact quantRises_ny h hl a b ha hb w
    | false => exact quantRises_nn h hl a b ha hb w
theorem quantOne_of (a0 a1 : Int) (W : World) (w0 : (Lit.int .u64 a0).wf = true) :
    Calls Try.prog 8 #[.int .u64 a0, .int .i64 a1] W fun e w' => e = .returned (.bool true) ∧ Below W.heap.size W w' := by
  have b0 := bounds_u64 w0
  exact quantOne_walk a0 a1 W b0.1 b0.2
end Go.Proofs.Ytkhacnifefljmaa
