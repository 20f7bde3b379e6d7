/- The walk of the statement on the order. -/
import Derived.Test.YtkbjlpdmmbldpaaDuOrd
set_option linter.unusedVariables false
set_option linter.unusedSimpArgs false
set_option maxRecDepth 100000
namespace Go.Proofs.Ytkbjlpdmmbldpaa
open Go.RowKit

theorem built0v : (#[Value.int .i64 0, .int .i64 0, .int .u64 0] : Array Value) = #[.int .i64 zeroTm.k, .int .i64 zeroTm.id, .int .u64 (zeroTm.t : Int)] := rfl
def Sorted2 (i : Nat) (M : List Tm) (x : Tm) : Prop := i = 0 ∨ ∀ z ∈ M, befT x z = true
set_option maxHeartbeats 8000000 in
theorem dueOrder_yes (w : World) (now0 to2 : Nat) (v : Value) (A : List Tm) (hnow : now0 < 18446744073709551616) (hto : to2 < 18446744073709551616) (hv : Reads timR w v A) (hA : ∀ a ∈ A, a.t < 18446744073709551616) (c1 : A.length ≤ 100) :
    Calls Try.prog 6 #[.int .u64 (now0 : Int), v, .int .u64 (to2 : Int)] w fun e w' => e = .returned (.bool true) ∧ Below w.heap.size w w' := by
  obtain ⟨av, capv, rfl⟩ := hv.form
  have HV := Lib.hid hv
  have HA := Lib.hid hA
  have KN := Lib.hid (snew w now0 hnow)
  clear hv hA hnow
  go_enter Try.func6, Try.ntmps6
  go_upto_block 0 with (go_at_call 26; refine KN.out.mono ?_; rintro e W1 ⟨d, rfl, hS1⟩)
  clear KN
  have HS1 := Lib.hid hS1
  clear hS1
  go_cut [8] (fun i8 wx => ∃ (now : Nat) (M : List Tm), M.length ≤ 100 ∧ DueS w wx d now M)
  case first =>
    go_wp2_with fail
    go_loopw [8] (fun i wr => ∃ (k now : Nat) (M : List Tm), k ≤ A.length ∧ M.length ≤ k ∧ i = .int .i64 k ∧ DueS w wr d now M) (fun i _ => A.length - (intOf i).toNat)
    case atStart => exact ⟨0, now0, [], by omega, by simp, rfl, HS1.out⟩
    case round =>
      clear HS1
      obtain ⟨k, now, M, hk, hM, rfl, hS⟩ := hrel
      have HS := Lib.hid hS
      have hlow := hS.low
      by_cases hlt : k < A.length
      · obtain ⟨a, ha⟩ : ∃ a, A[k]? = some a := ⟨_, List.getElem?_eq_getElem hlt⟩
        have hta := HA.out a (List.mem_of_getElem? ha)
        obtain ⟨b, off, rfl, hr2⟩ := HV.out.at ha
        have k0 := tim_k hr2
        have k1 := tim_id hr2
        have k2 := tim_t hr2
        have hne : Nonempty (Mix.InS (fun z => Below w.heap.size w z)) := ⟨⟨wr, hlow⟩⟩
        have d0 := fun (z : Mix.InS (fun z => Below w.heap.size w z)) => below_cell z.h k0
        have d1 := fun (z : Mix.InS (fun z => Below w.heap.size w z)) => below_cell z.h k1
        have d2 := fun (z : Mix.InS (fun z => Below w.heap.size w z)) => below_cell z.h k2
        have HLOW := Lib.hid (bthen' hlow (Below.refl _ _).drew)
        have KS := Lib.hid (sset2 (HS.out.below' (Below.refl _ _).drew) a.k a.id a.t hta (by omega))
        clear ha hr2 hS k0 k1 k2
        go_upto_region 7 with fail
        refine Mix.wp_region_mix [([0, 1, 2, 3, 4, 5, 6, 7, 8, 9, 10, 11, 12, 13, 14, 15], 16)] [] (fun w' => ∃ x : Mix.InS (fun z => Below w.heap.size w z), w' = x.w) (by kernel_rfl) (by kernel_rfl) (Mix.inS_mk HLOW.out) ?_
        generalize wr.drew = W4 at KS HLOW ⊢
        refine Mix.stages_cons ?_
        simp only [Mix.pickL, List.getElem?_cons_zero, List.getElem?_cons_succ]
        repeat (first
          | go_big_quiet_skip
          | (go_big_quiet_want; (go_big_quiet_op; go_big_quiet_on)))
        refine wpQuiet_nil ?_
        go_wp2_with (go_at_call 27; refine KS.out.mono ?_; rintro e W5 ⟨rfl, hS5⟩)
        refine Mix.onward_in hS5.low ?_
        refine Mix.stages_nil ?_
        simp only [Mix.pickL]
        refine wpQuiet_nil ?_
        clear d0 d1 d2 hne
        have HS5 := Lib.hid hS5
        have hl5 := dset_len M a.k a.id a.t
        clear hS5 hlow
        go_wp2_with fail
        go_roundw
        case rel => exact ⟨k + 1, now, _, by omega, by omega, by go_num, HS5.out⟩
        case measure => simp [intOf]; omega
      · go_wp2_with fail
        go_meet
        exact ⟨now, M, by omega, HS.out⟩
  case rest =>
    clear HS1
    obtain ⟨now, M, hM, hS⟩ := hcut
    have HS := Lib.hid hS
    have KL := Lib.hid (slen hS (by omega))
    clear hS
    go_upto_region 9 with (go_at_call 28; refine KL.out.mono ?_; rintro e w' ⟨rfl, rfl⟩)
    clear KL
    go_upto_region 10 with (first
      | (refine wl_built rfl 54 _ rfl [] (by simp [Act.eval, Act.put]) _ built0 ?_)
      | (refine wpList_store_row rfl 54 _ _ rfl wc.heap.size #[.int .i64 0, .int .i64 0, .int .u64 0] rfl rfl 54 #[.int .i64 0, .int .i64 0, .int .u64 0] (heap_alloc_new _ _) (timRow3 _ rfl) rfl (timOne3 _ _ _) ?_))
    show Code.wp _ _ _ _ ((wc.alloc (.cells #[.int .i64 0, .int .i64 0, .int .u64 0] 54)).setRow wc.heap.size #[.int .i64 0, .int .i64 0, .int .u64 0])
    have hO := HS.out.ord
    obtain ⟨b, hb⟩ : ∃ b, b = wc.heap.size := ⟨_, rfl⟩
    rw [← hb] at hO ⊢
    generalize (wc.alloc (.cells #[.int .i64 0, .int .i64 0, .int .u64 0] 54)).setRow b #[.int .i64 0, .int .i64 0, .int .u64 0] = W3 at hO ⊢
    have HO := Lib.hid hO
    clear hO hb HS
    go_wp2_with fail
    go_loopw [11] (fun i wr => ∃ (q now2 : Nat) (M2 : List Tm) (x : Tm), M2.length + q = M.length ∧ i = .int .i64 q ∧ Ord w wr d now2 M2 b x ∧ Hid (Sorted2 q M2 x)) (fun i _ => M.length + 1 - (intOf i).toNat)
    case atStart => exact ⟨0, now, M, zeroTm, rfl, rfl, HO.out, Lib.hid (.inl rfl)⟩
    case round =>
      clear HO
      obtain ⟨q, now2, M2, x, hq, rfl, hO, HSO⟩ := hrel
      have HO := Lib.hid hO
      clear hO
      have hql : q ≤ M.length := by omega
      by_cases hno : ∀ z ∈ M2, to2 < z.t
      · have KF := Lib.hid (ofirst_no HO.out to2 hto (by omega) hno)
        have HNO := Lib.hid hno
        clear hno HO
        go_upto_region 14 with (first
          | (go_at_call 29; refine KF.out.mono ?_; rintro e W4 ⟨rfl, hO4⟩)
          | (refine wpList_store_mid rfl 54 _ _ rfl W4.heap.size 0 (timR.cells zeroTm).toArray rfl rfl (freshR_there timOk W4 zeroTm) (timOk.row' zeroTm) (timOk.one' zeroTm) ?_; show wpList _ _ _ _ _ (freshR timR W4 zeroTm); have hb5 := freshR_below (R := timR) W4 zeroTm; generalize freshR timR W4 zeroTm = W5 at hb5 ⊢))
        have HO5 := Lib.hid (hO4.below' hb5)
        clear hO4 hb5 KF
        obtain ⟨m, bb, hn⟩ := next_is M2
        have KN := Lib.hid (snext HO5.out.dueS (by omega) m bb hn)
        have hn0 := hn.no
        have hn1 := hn.yes
        clear hn
        go_upto_region 16 with (go_at_call 30; refine KN.out.mono ?_; rintro e W6 ⟨rfl, hb6⟩)
        have HO6 := Lib.hid (HO5.out.below' hb6)
        have KL := Lib.hid (slen HO6.out.dueS (by omega))
        have KG := Lib.hid (sgo HO6.out.dueS to2 hto (by omega) HNO.out)
        have e5 : ((M2.length : Int) == (M.length : Int) - (q : Int)) = true := by simp; omega
        clear HO5 hb6 KN
        cases bb with
        | false =>
          clear hn0 hn1
          go_wp2_with (first
            | (go_at_call 25; refine (live09_any _).mono ?_; rintro e W9 ⟨rfl, hb9⟩)
            | (go_at_call 31; refine KG.out.mono ?_; rintro e W8 ⟨rfl, hS8⟩)
            | (go_at_call 28; refine KL.out.mono ?_; rintro e w' ⟨rfl, rfl⟩))
          go_ret
          exact ⟨rfl, bthen' hS8.low hb9⟩
        | true =>
          have hm9 : to2 < m := by obtain ⟨⟨z, hz, hzm⟩, -⟩ := hn1 rfl; have := HNO.out z hz; omega
          have q1 : decide ((m : Int) > (to2 : Int)) = true := by simp; omega
          have q2 : decide ((to2 : Int) < (m : Int)) = true := by simp; omega
          have q3 : decide (to2 < m) = true := by simp; omega
          clear hn0 hn1 hm9
          go_wp2_with (first
            | (go_at_call 25; refine (live09_any _).mono ?_; rintro e W9 ⟨rfl, hb9⟩)
            | (go_at_call 31; refine KG.out.mono ?_; rintro e W8 ⟨rfl, hS8⟩)
            | (go_at_call 28; refine KL.out.mono ?_; rintro e w' ⟨rfl, rfl⟩))
          go_ret
          exact ⟨rfl, bthen' hS8.low hb9⟩
      · have hne2 : M2 ≠ [] := fun e => hno (by rw [e]; simp)
        obtain ⟨n, y, hy, hmin⟩ := least_ex M2 hne2
        have hle : y.t ≤ to2 := by
          rcases Nat.lt_or_ge to2 y.t with h9 | h9
          · exfalso
            exact hno fun z hz => Nat.lt_of_lt_of_le h9 (bef_min hmin z hz)
          · exact h9
        have KF := Lib.hid (ofirst_yes HO.out to2 hto (by omega) n y hy hmin hle)
        have hel := erase_len1 hy
        have HSN := Lib.hid (show Sorted2 (q + 1) (M2.eraseIdx n) y from .inr (rest_later HO.out.nod hy hmin))
        have hlast : q = 0 ∨ befT x y = true := by
          rcases HSO.out with h9 | h9
          · exact .inl h9
          · exact .inr (h9 y (List.mem_of_getElem? hy))
        have q1 : decide ((y.t : Int) > (to2 : Int)) = false := by simp; omega
        have q2 : decide ((to2 : Int) < (y.t : Int)) = false := by simp; omega
        have q3 : decide (to2 < y.t) = false := by simp; omega
        clear hno HO hne2 hy hmin hle HSO
        go_upto_region 14 with (first
          | (go_at_call 29; refine KF.out.mono ?_; rintro e W4 ⟨rfl, hO4⟩)
          | (refine wpList_store_mid rfl 54 _ _ rfl W4.heap.size 0 (timR.cells y).toArray rfl rfl (freshR_there timOk W4 y) (timOk.row' y) (timOk.one' y) ?_; show wpList _ _ _ _ _ (freshR timR W4 y); have hx5 := freshR_range timOk W4 y; have hb5 := freshR_below (R := timR) W4 y; generalize freshR timR W4 y = W5 at hx5 hb5 ⊢))
        have HO5 := Lib.hid (hO4.below' hb5)
        obtain ⟨b5, hb5e⟩ : ∃ b5, b5 = W4.heap.size := ⟨_, rfl⟩
        have hbb : b ≠ b5 := fun e => by have := (Array.getElem?_eq_some_iff.1 hO4.row).1; omega
        rw [← hb5e] at hx5 ⊢
        have HX5 := Lib.hid hx5
        have HR5 := Lib.hid (row_reads (R := timR) x HO5.out.row)
        clear hO4 hb5 KF hx5 hb5e
        have HRW := Lib.hid (HO5.out.set y)
        have c5t : W5.cell? ⟨b5, 2, none⟩ = some (.int .u64 (y.t : Int)) := HX5.out 2 _ rfl
        by_cases hq0 : q = 0
        · have z1 : decide ((q : Int) > 0) = false := by simp; omega
          have z2 : decide ((0 : Int) < (q : Int)) = false := by simp; omega
          have z3 : decide (0 < q) = false := by simp; omega
          clear hq0 hlast
          go_wp2_with (first
            | (refine wpList_load_mid rfl 54 _ rfl b5 0 rfl (timR.cells y) _ HX5.out Try.underlying54 rfl (timOk.row y) ?_)
            | (refine wpList_store_row rfl 54 _ _ rfl b #[.int .i64 y.k, .int .i64 y.id, .int .u64 (y.t : Int)] rfl rfl 54 #[.int .i64 x.k, .int .i64 x.id, .int .u64 (x.t : Int)] HO5.out.row (timRow3 _ rfl) rfl (timOne3 _ _ _) ?_))
          go_roundw
          case rel => exact ⟨q + 1, _, _, y, by omega, by go_num, HRW.out, HSN⟩
          case measure => simp [intOf]; omega
        · have z1 : decide ((q : Int) > 0) = true := by simp; omega
          have z2 : decide ((0 : Int) < (q : Int)) = true := by simp; omega
          have z3 : decide (0 < q) = true := by simp; omega
          have KT := Lib.hid (later_any W5 y x)
          rw [hlast.resolve_left hq0] at KT
          clear hq0 hlast
          go_upto_if 102 with (first
            | (refine wl_load_mid rfl 54 _ rfl b5 0 rfl (timR.cells y) _ HX5.out Try.underlying54 rfl (timOk.row y) ?_)
            | (refine wl_load_mid rfl 54 _ rfl b 0 rfl (timR.cells x) _ HR5.out Try.underlying54 rfl (timOk.row x) ?_)
            | (go_at_call 32; refine KT.out.mono ?_; rintro e W6 ⟨rfl, hb6⟩; have c6t := below_cell hb6 c5t))
          have HO6 := Lib.hid (HO5.out.below' hb6)
          have HX6 := Lib.hid (below_range hb6 HX5.out)
          have HRW6 := Lib.hid (HO6.out.set y)
          clear hb6 KT HR5 c5t
          go_wp2_with (first
            | (refine wpList_load_mid rfl 54 _ rfl b5 0 rfl (timR.cells y) _ HX6.out Try.underlying54 rfl (timOk.row y) ?_)
            | (refine wpList_store_row rfl 54 _ _ rfl b #[.int .i64 y.k, .int .i64 y.id, .int .u64 (y.t : Int)] rfl rfl 54 #[.int .i64 x.k, .int .i64 x.id, .int .u64 (x.t : Int)] HO6.out.row (timRow3 _ rfl) rfl (timOne3 _ _ _) ?_))
          go_roundw
          case rel => exact ⟨q + 1, _, _, y, by omega, by go_num, HRW6.out, HSN⟩
          case measure => simp [intOf]; omega
theorem dueOrder_far (w : World) (now : Int) (to2 : Int) (v : Value) (A : List Tm) (hv : Reads timR w v A) (h : 100 < A.length) :
    Calls Try.prog 6 #[.int .u64 now, v, .int .u64 to2] w fun e w' => e = .returned (.bool true) ∧ Below w.heap.size w w' := by
  obtain ⟨av, capv, rfl⟩ := hv.form
  clear hv
  have KV := Lib.hid (live09_any w)
  go_enter Try.func6, Try.ntmps6
  go_wp2_with (go_at_call 25; refine KV.out.mono ?_; rintro e W2 ⟨rfl, hb2⟩)
  go_ret
  exact ⟨rfl, hb2⟩
theorem dueOrder_of (W : World) (z z2 : Int) (v : Value) (A : List Tm) (hz : (Lit.int .u64 z).wf = true) (hz2 : (Lit.int .u64 z2).wf = true) (hv : Reads timR W v A) (hA : ∀ a ∈ A, a.t < 18446744073709551616) :
    Calls Try.prog 6 #[.int .u64 z, v, .int .u64 z2] W fun e w' => e = .returned (.bool true) ∧ Below W.heap.size W w' := by
  obtain ⟨now, rfl, hnow⟩ := natOf hz
  obtain ⟨to2, rfl, hto⟩ := natOf hz2
  by_cases h : 100 < A.length
  · exact dueOrder_far W now to2 v A hv h
  · exact dueOrder_yes W now to2 v A hnow hto hv hA (by omega)
end Go.Proofs.Ytkbjlpdmmbldpaa
